/-
  A probe told an answer: the program's.
-/
import Derived.Test.YtogcfnhbacglfaaPrbA
set_option linter.unusedSimpArgs false
set_option linter.unusedVariables false
set_option maxRecDepth 100000
set_option maxHeartbeats 4000000
namespace Go.Proofs.Ytogcfnhbacglfaa
open Go.Sim Go.Sim.Bt
attribute [local congr] bdc cndc itec gdc gdSc gdUc

/-- A break, and at which list. -/
structure Bk where
  wl : Int
  wb : Int
  k : Int
  r : Rf
  at_ : Int
abbrev Bk.c8 (x : Bk) : List Value := [.int .i64 x.wl, .int .u64 x.wb, .int .i64 x.k, .int .i64 x.r.id, .int .i64 x.r.rk, .int .u64 x.r.n, .int .i64 x.r.ln, .int .u64 x.r.bt]
abbrev Bk.c9 (x : Bk) : List Value := [.int .i64 x.wl, .int .u64 x.wb, .int .i64 x.k, .int .i64 x.r.id, .int .i64 x.r.rk, .int .u64 x.r.n, .int .i64 x.r.ln, .int .u64 x.r.bt, .int .i64 x.at_]
structure Pc where
  me : Rf
  ls : List (Int × Int)
structure Pm where
  at_ : Nat
  bes : Bool
  x : Rf
  L : List Bk
abbrev pcs (c : Pc) (m : Pm) (lv bv : Value) : List Value :=
  [.int .i64 c.me.id, .int .i64 c.me.rk, .int .u64 c.me.n, .int .i64 c.me.ln, .int .u64 c.me.bt, lv, .int .i64 (m.at_ : Int), .bool m.bes, .int .i64 m.x.id, .int .i64 m.x.rk, .int .u64 m.x.n, .int .i64 m.x.ln, .int .u64 m.x.bt, bv, .bool true]
abbrev rcs (c : Pc) (m : Pm) (lv bv : Value) : List Value :=
  [.int .i64 c.me.id, .int .i64 c.me.rk, .int .u64 c.me.n, .int .i64 c.me.ln, .int .u64 c.me.bt, lv, .int .i64 (m.at_ : Int), .bool m.bes, .int .i64 m.x.id, .int .i64 m.x.rk, .int .u64 m.x.n, .int .i64 m.x.ln, .int .u64 m.x.bt, bv]
abbrev PU (b : Nat) : Value := .pointer (some ⟨b, 0, some 0⟩)
structure AtQ (c : Pc) (m : Pm) (s : St) (U : Nat) : Prop where
  ex : ∃ lv bv, s.get U = some (.row 15 [pcs c m lv bv] false) ∧ IsR s 2 lv (c.ls.map V2) ∧ Ful 0 s 9 bv (m.L.map Bk.c9)
structure AtK (c : Pc) (m : Pm) (s : St) (R : Nat) : Prop where
  ex : ∃ lv bv, s.get R = some (.row 14 [rcs c m lv bv] false) ∧ IsR s 2 lv (c.ls.map V2) ∧ IsR s 8 bv (m.L.map Bk.c8)
/-- What always holds. -/
structure InvP (c : Pc) (m : Pm) : Prop where
  len : c.ls.length ≤ 1024
  a : m.at_ ≤ c.ls.length
  l : m.L.length ≤ m.at_
  up : ∀ (i j : Nat) x y, i < j → m.L[i]? = some x → m.L[j]? = some y → x.at_ < y.at_
  lt : ∀ x ∈ m.L, 0 ≤ x.at_ ∧ x.at_ < (m.at_ : Int)
def foundC (c : Pc) (m : Pm) (a : Ans) (w : Int × Int) : List Bk :=
  if a.k = 3 then [⟨w.1, w.2, 1, m.x, m.at_⟩] else if a.k = 1 ∧ ¬ (a.l.id = c.me.id ∧ a.l.rk = c.me.rk ∧ a.l.n = c.me.n ∧ a.l.ln = c.me.ln ∧ a.l.bt = c.me.bt) then [⟨w.1, w.2, 2, m.x, m.at_⟩] else []
def tellC (c : Pc) (m : Pm) (a : Ans) : Pm :=
  match c.ls[m.at_]? with
  | none => m
  | some w => if m.bes = true then ⟨m.at_ + 1, false, m.x, m.L ++ foundC c m a w⟩
    else if a.k = 1 ∧ lessK c.me.rk c.me.n a.r.rk a.r.n then ⟨m.at_, true, a.r, m.L⟩ else ⟨m.at_ + 1, false, m.x, m.L⟩
theorem found_len (c : Pc) (m : Pm) (a : Ans) (w : Int × Int) : (foundC c m a w).length ≤ 1 := by
  unfold foundC
  split
  · simp
  · split <;> simp
theorem found_at {c : Pc} {m : Pm} {a : Ans} {w : Int × Int} {x : Bk} (h : x ∈ foundC c m a w) : x.at_ = (m.at_ : Int) := by
  unfold foundC at h
  split at h
  · simp at h; rw [h]
  · split at h
    · simp at h; rw [h]
    · simp at h
theorem inv_tell {c : Pc} {m : Pm} (I : InvP c m) (a : Ans) : InvP c (tellC c m a) := by
  unfold tellC
  split
  · exact I
  · rename_i w hw
    have hlt : m.at_ < c.ls.length := (List.getElem?_eq_some_iff.1 hw).1
    have ha := I.a
    have hl := I.l
    split
    · refine ⟨I.len, hlt, ?_, fun i j x y hij hx hy => ?_, fun x hx => ?_⟩
      · have := found_len c m a w
        rw [List.length_append]
        show _ ≤ m.at_ + 1
        omega
      · simp only at hx hy
        by_cases hj : j < m.L.length
        · rw [List.getElem?_append_left hj] at hy
          rw [List.getElem?_append_left (by omega)] at hx
          exact I.up i j x y hij hx hy
        · rw [List.getElem?_append_right (by omega)] at hy
          have e2 := found_at (List.mem_of_getElem? hy)
          by_cases hi : i < m.L.length
          · rw [List.getElem?_append_left hi] at hx
            rw [e2]
            exact (I.lt x (List.mem_of_getElem? hx)).2
          · have := found_len c m a w
            have := (List.getElem?_eq_some_iff.1 hy).1
            omega
      · rcases List.mem_append.1 hx with hx | hx
        · obtain ⟨h1, h2⟩ := I.lt x hx
          exact ⟨h1, by show _ < ((m.at_ + 1 : Nat) : Int); omega⟩
        · rw [found_at hx]
          exact ⟨by omega, by show _ < ((m.at_ + 1 : Nat) : Int); omega⟩
    · split
      · exact ⟨I.len, ha, hl, I.up, I.lt⟩
      · exact ⟨I.len, hlt, by show m.L.length ≤ m.at_ + 1; omega, I.up, fun x hx => ⟨(I.lt x hx).1, by have := (I.lt x hx).2; show _ < ((m.at_ + 1 : Nat) : Int); omega⟩⟩
def sameG (a b : Rf) : Bool := decide (a.id = b.id) && (decide (a.rk = b.rk) && (decide (a.n = b.n) && (decide (a.ln = b.ln) && decide (a.bt = b.bt))))
theorem eqks_g (x y : Rf) : eqks [1, 1, 1, 1, 1] [.int .i64 x.id, .int .i64 x.rk, .int .u64 x.n, .int .i64 x.ln, .int .u64 x.bt] [.int .i64 y.id, .int .i64 y.rk, .int .u64 y.n, .int .i64 y.ln, .int .u64 y.bt] = some (sameG x y) := by
  simp only [sy, reduceIte, Nat.reduceAdd, Nat.reduceLeDiff, Nat.reduceLT, Nat.reduceEqDiff, Int.reduceEq, Int.reduceLT, Int.reduceLE, Int.reduceNe, ly, sameG, Bool.and_true]
theorem sameG_iff (x y : Rf) : sameG x y = true ↔ (x.id = y.id ∧ x.rk = y.rk ∧ x.n = y.n ∧ x.ln = y.ln ∧ x.bt = y.bt) := by
  unfold sameG
  simp [Bool.and_eq_true]
theorem is_r {c : Pc} {m : Pm} {s : St} {U : Nat} {lv bv : Value} (h : s.get U = some (.row 15 [pcs c m lv bv] false)) : probe_Probe_is.r (PU U) s = some (.bool true) := by
  have e : eqb [3] false true (PU U) (.pointer none) = some (.bool true) := rfl
  simp only [probe_Probe_is.r, probe_Probe_is.t, sy, reduceIte, Nat.reduceAdd, Nat.reduceLeDiff, Nat.reduceLT, Nat.reduceEqDiff, Int.reduceEq, Int.reduceLT, Int.reduceLE, Int.reduceNe, ly, ldc_row h]
end Go.Proofs.Ytogcfnhbacglfaa
