/-
  Values as rows of bytes; two of the same bytes; steps that bear values.
-/
import Derived.Test.YteiagjbjokldgaaMachE
set_option linter.unusedSimpArgs false
set_option linter.unusedVariables false
set_option maxRecDepth 100000
set_option maxHeartbeats 2000000
namespace Go.Proofs.Yteiagjbjokldgaa
open Go.Sim Go.Sim.Bt
attribute [local congr] bdc cndc itec gdc gdSc gdUc

/-- A slice of such bytes. -/
structure Byt (s : St) (v : Value) (l : List (List Value)) : Prop where
  sl : ∃ a n c, v = .slice a n c
  len : lenV v = some l.length
  rows : rowsOf s 1 l.length v = some l
  ok : ∃ bs, bytesOf l = some bs
theorem Byt.bx {s : St} {v : Value} {l : List (List Value)} (h : Byt s v l) : bx v = some [v] := by
  obtain ⟨a, n, c, rfl⟩ := h.sl; rfl
theorem Byt.same {s : St} {v : Value} {l : List (List Value)} (h : Byt s v l) : sameV v v = true := by
  obtain ⟨a, n, c, rfl⟩ := h.sl
  rcases a with _ | ⟨b, i, j⟩ <;> simp [sameV]
theorem Byt.lenL {s : St} {v : Value} {l : List (List Value)} (h : Byt s v l) : lenL v = some (.int .i64 l.length) := by
  obtain ⟨a, n, c, rfl⟩ := h.sl
  have := h.len
  simp only [lenV, Option.some.injEq] at this
  simp only [Sim.lenL, this]
theorem Byt.b2s {s : St} {v : Value} {l : List (List Value)} (h : Byt s v l) : ∀ bs, bytesOf l = some bs → b2s s v = some (.string ⟨⟨bs⟩⟩) := by
  intro bs hb
  obtain ⟨a, n, c, rfl⟩ := h.sl
  unfold Sim.b2s
  rw [h.len]
  simp only [Option.bind_some, h.rows, hb, Option.map_some]
theorem rowsOf_stp {ks : List Nat} {s s' : St} {n : Nat} {v : Value} {l : List (List Value)} (hv : ∃ a n c, v = .slice a n c) (h : rowsOf s 1 n v = some l) (k : StpK ks s s') (hn : 1 ∉ ks) : rowsOf s' 1 n v = some l := by
  obtain ⟨a, m, c, rfl⟩ := hv
  unfold rowsOf at h ⊢
  split at h
  · split at h
    · rename_i _ sz' rows ro hg
      split at h
      · rename_i hc
        have := hc.1
        subst this
        rw [k.row hg hn]
        simp only []
        rw [if_pos ⟨trivial, hc.2⟩]
        exact h
      · cases h
    · cases h
  · exact h
  · rename_i e; cases e
  · cases h
theorem Byt.stp {ks : List Nat} {s s' : St} {v : Value} {l : List (List Value)} (h : Byt s v l) (k : StpK ks s s') (hn : 1 ∉ ks) : Byt s' v l :=
  ⟨h.sl, h.len, rowsOf_stp h.sl h.rows k hn, h.ok⟩
theorem byt_nil (s : St) : Byt s (.slice none 0 0) [] := ⟨⟨_, _, _, rfl⟩, rfl, rfl, ⟨[], rfl⟩⟩
theorem bytesOf_ok {s : St} : ∀ {rows : List (List Value)}, (∀ r ∈ rows, Leaf.Are s [.i .u8] r) → ∃ bs, bytesOf rows = some bs
  | [], _ => ⟨[], rfl⟩
  | r :: rows, h => by
    have h1 := h r (by simp)
    unfold Leaf.Are Leaf.Are Leaf.Is at h1
    obtain ⟨_, _, rfl, ⟨n, rfl, _⟩, rfl⟩ := h1
    obtain ⟨bs, hb⟩ := bytesOf_ok (rows := rows) fun x hx => h x (by simp [hx])
    exact ⟨UInt8.ofNat n.toNat :: bs, by simp only [bytesOf, hb, Option.map_some]⟩
/-- What is handed in, whole or cut off. -/
theorem byt_val {s : St} {v : Value} (h : ValIs s v) : ∃ l, Byt s v l := by
  unfold ValIs Leaf.Is at h
  rcases h with rfl | ⟨b, len, cap, rows, rfl, h1, h2, h3, h4, h5⟩
  · exact ⟨[], byt_nil s⟩
  · have h3 : s.get b = some (.row 1 rows true) := h3
    have hl : (rows.take len).length = len := by rw [List.length_take]; omega
    refine ⟨rows.take len, ⟨_, _, _, rfl⟩, by rw [hl]; rfl, ?_, bytesOf_ok fun r hr => h5 r (List.mem_of_mem_take hr)⟩
    rw [hl, rowsOf_row (i := 0) (n := len) (len := len) (e := 2 * cap) h3 (Nat.le_refl _) (by omega)]
    rfl
theorem byt_cut {s : St} {v : Value} (h : ValIs s v) {len : Int} (hl : lenL v = some (.int .i64 len)) {k : Nat} (hk : (k : Int) < len) : ∃ w l, slc s 1 v none (some (.int .i64 (k : Int))) none = some w ∧ Byt s w l ∧ l.length = k := by
  unfold ValIs Leaf.Is at h
  rcases h with rfl | ⟨b, n, cap, rows, rfl, h1, h2, h3, h4, h5⟩
  · simp only [lenL, Option.some.injEq, Value.int.injEq] at hl
    have := hl.2; omega
  · simp only [lenL, Option.some.injEq, Value.int.injEq] at hl
    have hkn : k < n := by have := hl.2; omega
    have h3 : s.get b = some (.row 1 rows true) := h3
    have hl : (rows.take k).length = k := by rw [List.length_take]; omega
    refine ⟨.slice (some ⟨b, 0, some 0⟩) k (2 * cap), rows.take k, ?_, ⟨⟨_, _, _, rfl⟩, by rw [hl]; rfl, ?_, bytesOf_ok fun r hr => h5 r (List.mem_of_mem_take hr)⟩, hl⟩
    · have e1 : optN (some (Value.int .i64 (k : Int))) n = some k := by simp [optN, isNat]
      have e2 : optN none 0 = some 0 := rfl
      unfold slc
      rw [e2, bds]
      show ((optN (some (Value.int .i64 (k : Int))) n).bind _) = _
      rw [e1, bds, h3]
      show (if 1 = 1 ∧ 0 ≤ k then (if 2 * cap = 1 then _ else if k ≤ 2 * cap / 2 then some (Value.slice (some ⟨b, 0 + 0, some 0⟩) (k - 0) (2 * (2 * cap / 2 - 0))) else none) else none) = _
      rw [if_pos ⟨rfl, Nat.zero_le _⟩, if_neg (by omega), if_pos (by omega), show 2 * (2 * cap / 2 - 0) = 2 * cap by omega]
      rfl
    · rw [hl, rowsOf_row (i := 0) (n := k) (len := k) (e := 2 * cap) h3 (Nat.le_refl _) (by omega)]
      rfl
/-- Two of the same bytes. -/
def SameB (s : St) (v w : Value) : Prop := ∃ l, Byt s v l ∧ Byt s w l
theorem SameB.stp {ks : List Nat} {s s' : St} {v w : Value} (h : SameB s v w) (k : StpK ks s s') (hn : 1 ∉ ks) : SameB s' v w := by
  obtain ⟨l, h1, h2⟩ := h
  exact ⟨l, h1.stp k hn, h2.stp k hn⟩
theorem sameB_nil (s : St) : SameB s (.slice none 0 0) (.slice none 0 0) := ⟨[], byt_nil s, byt_nil s⟩
/-- append([]byte{}, v...) -/
theorem clone_r {s : St} {v : Value} {l : List (List Value)} (hf : Fresh s) (h : Byt s v l) (hl : l.length ≤ 140737488355328) :
    ∃ w s', app (s.new (.row 1 [] false)) 1 1 (.slice (some ⟨s.n, 0, some 0⟩) 0 0) v = some (w, s') ∧ More s s' ∧ Byt s' w l := by
  have m1 : More s (s.new (.row 1 [] false)) := .new
  have h1 : Byt (s.new (.row 1 [] false)) v l := h.stp (StpK.more (ks := []) m1 hf) (by simp)
  have g : (s.new (.row 1 [] false)).get s.n = some (.row 1 [] false) := get_new_same
  have f1 := m1.fresh hf
  by_cases h0 : l.length = 0
  · have e : l = [] := List.eq_nil_of_length_eq_zero h0
    subst e
    refine ⟨.slice (some ⟨s.n, 0, some 0⟩) 0 0, (s.new (.row 1 [] false)).put s.n (.row 1 [] false), ?_, m1.put (Nat.le_refl _), ⟨⟨_, _, _, rfl⟩, rfl, ?_, ⟨[], rfl⟩⟩⟩
    · have hlen := h1.len
      have hrow := h1.rows
      simp only [List.length_nil] at hlen hrow
      simp only [app, hlen, hrow, g]
      rfl
    · rw [List.length_nil, rowsOf_row (get_put_same g) (Nat.le_refl _) (by simp)]
      rfl
  · refine ⟨_, _, app_full h1.len h1.rows g (by simp) (by omega) (by omega) (by omega) (by omega), m1.trans .new, ⟨⟨_, _, _, rfl⟩, by rw [Nat.zero_add]; rfl, ?_, h.ok⟩⟩
    rw [Nat.zero_add, rowsOf_row get_new_same (Nat.le_refl _) (by simp)]
    simp
/-- A result that bears a value. -/
structure RV where
  e : Int
  key : Int
  v : Value
  l : Rf
  r : Rf
  found : Bool
/-- A step whose result bears a value. -/
abbrev stepV (k : Int) (t : Rf) (a : AskP) (r : RV) (v : Value) : List Value :=
  [.int .i64 k, .int .i64 t.id, .int .i64 t.rk, .int .u64 t.n, .int .i64 t.ln, .int .u64 t.bt,
   .int .i64 a.k, .int .i64 a.wl, .int .u64 a.wb, .int .i64 a.r.id, .int .i64 a.r.rk, .int .u64 a.r.n, .int .i64 a.r.ln, .int .u64 a.r.bt, .int .i64 a.r2.id, .int .i64 a.r2.rk, .int .u64 a.r2.n, .int .i64 a.r2.ln, .int .u64 a.r2.bt, .int .i64 a.oa, .int .i64 a.oo,
   .int .i64 r.e, .int .u64 r.key, v, .slice none 0 0, .int .i64 r.l.id, .int .i64 r.l.rk, .int .u64 r.l.n, .int .i64 r.l.ln, .int .u64 r.l.bt, .int .i64 r.r.id, .int .i64 r.r.rk, .int .u64 r.r.n, .int .i64 r.r.ln, .int .u64 r.r.bt, .bool r.found]
end Go.Proofs.Yteiagjbjokldgaa
