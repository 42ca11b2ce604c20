/-
  The reference's search: what each step makes of it.
-/
import Derived.Test.YteafgjpbfhjbjaaGreatSekC
set_option linter.unusedSimpArgs false
set_option linter.unusedVariables false
set_option maxRecDepth 100000
set_option maxHeartbeats 2000000
namespace Go.Proofs.YteafgjpbfhjbjaaGreat
open Go.Sim Go.Sim.Bt
attribute [local congr] bdc cndc itec gdc gdSc gdUc
structure Wl where
  k : Wk
  l : Rf
  r : Rf
abbrev Wl.cs (w : Wl) : List Value := [.int .i64 w.k.id, .int .i64 w.k.l, .int .u64 w.k.b, .int .i64 w.l.id, .int .i64 w.l.rk, .int .u64 w.l.n, .int .i64 w.l.ln, .int .u64 w.l.bt, .int .i64 w.r.id, .int .i64 w.r.rk, .int .u64 w.r.n, .int .i64 w.r.ln, .int .u64 w.r.bt]
def rowsW (ws : List Wl) : List (List Value) := ws.map Wl.cs
def tabW (ws : List Wl) : List (Wk × Rf) := ws.map fun w => (w.k, w.r)
theorem rowsW_length (ws : List Wl) : (rowsW ws).length = ws.length := by simp [rowsW]
theorem tabW_length (ws : List Wl) : (tabW ws).length = ws.length := by simp [tabW]
theorem rowsW_get {ws : List Wl} {j : Nat} {w : Wl} (h : ws[j]? = some w) : (rowsW ws)[j]? = some w.cs := by simp [rowsW, h]
theorem tabW_get {ws : List Wl} {j : Nat} {w : Wl} (h : ws[j]? = some w) : (tabW ws)[j]? = some (w.k, w.r) := by simp [tabW, h]
abbrev rrow (c : Cf) (m : Mm) (wv : Value) : List Value :=
  [.int .i64 c.h, .int .i64 c.st.id, .int .i64 c.st.rk, .int .u64 c.st.n, .int .i64 c.st.ln, .int .u64 c.st.bt, .int .i64 c.tr, .int .u64 c.tn, .int .i64 m.ap.id, .int .i64 m.ap.rk, .int .u64 m.ap.n, .int .i64 m.ap.ln, .int .u64 m.ap.bt, .int .i64 m.wl, .int .u64 m.wb, .bool m.lk, .int .i64 m.to.id, .int .i64 m.to.rk, .int .u64 m.to.n, .int .i64 m.to.ln, .int .u64 m.to.bt, wv, .int .i64 m.n, .bool m.ov,
   .int .i64 m.res.e, .int .u64 m.res.key, .slice none 0 0, .slice none 0 0, .int .i64 m.res.l.id, .int .i64 m.res.l.rk, .int .u64 m.res.l.n, .int .i64 m.res.l.ln, .int .u64 m.res.l.bt, .int .i64 m.res.r.id, .int .i64 m.res.r.rk, .int .u64 m.res.r.n, .int .i64 m.res.r.ln, .int .u64 m.res.r.bt, .bool m.res.found]
abbrev RRow (s : St) (d : Nat) (cs : List Value) : Prop := s.get d = some (.row 39 [cs] false)
abbrev RPut (s : St) (d : Nat) (cs : List Value) : St := s.put d (.row 39 [cs] false)
def StpR (d n0 : Nat) (s s' : St) : Prop := s.n ≤ s'.n ∧ (∀ x k, s.get x = some k → x ≠ d → (x < n0 ∨ ∀ rows ro, k ≠ .row 13 rows ro) → s'.get x = some k) ∧ (Fresh s → Fresh s')
theorem StpR.refl (d n0 : Nat) (s : St) : StpR d n0 s s := ⟨Nat.le_refl _, fun _ _ h _ _ => h, id⟩
theorem StpR.trans {d n0 : Nat} {s s1 s2 : St} (h : StpR d n0 s s1) (k : StpR d n0 s1 s2) : StpR d n0 s s2 :=
  ⟨Nat.le_trans h.1 k.1, fun x y hx hd hy => k.2.1 x y (h.2.1 x y hx hd hy) hd hy, fun f => k.2.2 (h.2.2 f)⟩
theorem StpR.put {d n0 : Nat} {s : St} {x : Blk} : StpR d n0 s (s.put d x) := ⟨Nat.le_refl _, fun y k h hd _ => by rw [get_put_ne hd]; exact h, fun f => f.put⟩
structure AtR (c : Cf) (m : Mm) (s0 s : St) (d : Nat) (wv : Value) (ws : List Wl) : Prop where
  row : RRow s d (rrow c m wv)
  own : Own s0.n s 13 wv (rowsW ws)
  tab : m.tab = tabW ws
  more : More s0 s
  big : ws.length ≤ 100000
  dn : s0.n ≤ d
theorem own_put {n0 d : Nat} {s : St} {wv : Value} {rows : List (List Value)} {X Y : List Value} (h : Own n0 s 13 wv rows) (hr : RRow s d X) : Own n0 (RPut s d Y) 13 wv rows := by
  rcases h with ⟨h1, h2⟩ | ⟨o, h1, h2, h3⟩
  · exact .inl ⟨h1, h2⟩
  · refine .inr ⟨o, h1, h2, ?_⟩
    rw [get_put_ne (by rintro rfl; unfold RRow at hr; rw [h3] at hr; simp at hr)]
    exact h3
theorem AtR.put {c : Cf} {m m' : Mm} {s0 s : St} {d : Nat} {wv : Value} {ws : List Wl} (h : AtR c m s0 s d wv ws) (ht : m'.tab = m.tab) : AtR c m' s0 (RPut s d (rrow c m' wv)) d wv ws :=
  ⟨get_put_same h.row, own_put h.own h.row, by rw [ht]; exact h.tab, h.more.put h.dn, h.big, h.dn⟩
theorem rcheck_r (r n : Int) (s : St) : r02Check.r (KV r n) s = some (.int .i64 (if okK r n then 0 else 20)) := by
  unfold okK
  rcases Classical.propComplete (r = 2) with h1 | h1
  · have h2 : (r = 1) = False := eq_false (by have := of_eq_true h1; omega)
    have h3 : (r = 3) = False := eq_false (by have := of_eq_true h1; omega)
    rcases Classical.propComplete (n = 0) with h4 | h4 <;> simp only [r02Check.r, r02Check.t, sy, reduceIte, Nat.reduceAdd, Nat.reduceLeDiff, Nat.reduceLT, Nat.reduceEqDiff, Int.reduceEq, Int.reduceLT, Int.reduceLE, Int.reduceNe, ly, h1, h2, h3, h4]
  · rcases Classical.propComplete (r = 1) with h2 | h2
    · have h3 : (r = 3) = False := eq_false (by have := of_eq_true h2; omega)
      rcases Classical.propComplete (n = 0) with h4 | h4 <;> simp only [r02Check.r, r02Check.t, sy, reduceIte, Nat.reduceAdd, Nat.reduceLeDiff, Nat.reduceLT, Nat.reduceEqDiff, Int.reduceEq, Int.reduceLT, Int.reduceLE, Int.reduceNe, ly, h1, h2, h3, h4]
    · rcases Classical.propComplete (r = 3) with h3 | h3
      · rcases Classical.propComplete (n = 0) with h4 | h4 <;> simp only [r02Check.r, r02Check.t, sy, reduceIte, Nat.reduceAdd, Nat.reduceLeDiff, Nat.reduceLT, Nat.reduceEqDiff, Int.reduceEq, Int.reduceLT, Int.reduceLE, Int.reduceNe, ly, h1, h2, h3, h4]
      · rcases Classical.propComplete (n = 0) with h4 | h4 <;> simp only [r02Check.r, r02Check.t, sy, reduceIte, Nat.reduceAdd, Nat.reduceLeDiff, Nat.reduceLT, Nat.reduceEqDiff, Int.reduceEq, Int.reduceLT, Int.reduceLE, Int.reduceNe, ly, h1, h2, h3, h4]
def idI : Option Nat → Int
  | some i => (i : Int)
  | none => -1
theorem own_idx {n0 : Nat} {s : St} {wv : Value} {ws : List Wl} (h : Own n0 s 13 wv (rowsW ws)) {j : Nat} {w : Wl} (hj : ws[j]? = some w) : ∃ o, n0 ≤ o ∧ wv = .slice (some ⟨o, 0, some 0⟩) ws.length 1 ∧ s.get o = some (.row 13 (rowsW ws) false) ∧ idx s 13 wv (.int .i64 (j : Int)) = some (.pointer (some ⟨o, j, some 0⟩)) := by
  have hlt : j < ws.length := (List.getElem?_eq_some_iff.1 hj).1
  rcases h with ⟨_, h0⟩ | ⟨o, h1, h2, h3⟩
  · have := congrArg List.length h0
    rw [rowsW_length] at this
    simp only [List.length_nil] at this
    omega
  · rw [rowsW_length] at h2
    refine ⟨o, h1, h2, h3, ?_⟩
    subst h2
    have := idx_row (k := .i64) (i := 0) (n := (j : Int)) (len := ws.length) (e := 1) h3 (by omega) (by omega)
    rwa [Int.toNat_natCast, Nat.zero_add] at this
theorem known_r {c : Cf} {m : Mm} {s0 s : St} {d : Nat} {wv : Value} {ws : List Wl} (h : AtR c m s0 s d wv ws) (r : Rf) :
    r12Seek_known.r (P d) (.agg ⟨r.cs⟩) s = some (.int .i64 (idI (idxW m.tab ⟨r.id, m.wl, m.wb⟩))) := by
  have hr := h.row
  have hlen := h.own.len
  rw [rowsW_length] at hlen
  have loop : iter (r12Seek_known.l2 std) BIG [P d, Value.int .i64 ((0 : Nat) : Int), .agg ⟨r.cs⟩] s = match idxW m.tab ⟨r.id, m.wl, m.wb⟩ with | some i => some ((1, [.int .i64 (i : Int)], s) : Cut) | none => some ((0, [], s) : Cut) := by
    refine iter_rel (fun k xs s' => ∃ j : Nat, s' = s ∧ j + k = ws.length ∧ xs = [P d, Value.int .i64 (j : Int), .agg ⟨r.cs⟩] ∧ idxW m.tab ⟨r.id, m.wl, m.wb⟩ = (idxW ((tabW ws).drop j) ⟨r.id, m.wl, m.wb⟩).map (· + j))
      (fun y : Option Cut => y = match idxW m.tab ⟨r.id, m.wl, m.wb⟩ with | some i => some ((1, [.int .i64 (i : Int)], s) : Cut) | none => some ((0, [], s) : Cut)) ?_ BIG ws.length _ s (by have := h.big; unfold BIG; omega) ⟨0, rfl, by omega, rfl, by rw [h.tab, List.drop_zero]; simp⟩
    rintro k xs s' rec ⟨j, rfl, hj, rfl, hi⟩ ih
    cases k with
    | zero =>
      have e1 : ¬ ((j : Int) < ws.length) := by omega
      rw [hi, List.drop_of_length_le (by rw [tabW_length]; omega)]
      show _ = some ((0, [], s') : Cut)
      simp only [r12Seek_known.l2, sy, reduceIte, Nat.reduceAdd, Nat.reduceLeDiff, Nat.reduceLT, Nat.reduceEqDiff, Int.reduceEq, Int.reduceLT, Int.reduceLE, Int.reduceNe, ly, ldc_row hr, hlen, e1]
    | succ k =>
      have e1 : (j : Int) < ws.length := by omega
      have hjl : j < ws.length := by omega
      obtain ⟨w, hw⟩ := get_some hjl
      obtain ⟨o, o1, o2, o3, o4⟩ := own_idx h.own hw
      have hd := drop_get (tabW_get hw)
      have rg := rowsW_get hw
      have e5 : IntKind.i64.wrap ((j : Int) + 1) = ((j + 1 : Nat) : Int) := by have := h.big; rw [wrap64 (by omega) (by omega)]; omega
      unfold idxW at hi
      rw [hd, List.findIdx?_cons] at hi
      have no : eqW ⟨r.id, m.wl, m.wb⟩ w.k = false → r12Seek_known.l2 std rec [P d, Value.int .i64 (j : Int), .agg ⟨r.cs⟩] s' = rec [P d, Value.int .i64 ((j + 1 : Nat) : Int), .agg ⟨r.cs⟩] s' → r12Seek_known.l2 std rec [P d, Value.int .i64 (j : Int), .agg ⟨r.cs⟩] s' = match idxW m.tab ⟨r.id, m.wl, m.wb⟩ with | some i => some ((1, [.int .i64 (i : Int)], s') : Cut) | none => some ((0, [], s') : Cut) := by
        intro hq fin
        rw [fin]
        refine ih k _ _ (by omega) ⟨j + 1, rfl, by omega, rfl, ?_⟩
        show List.findIdx? _ _ = _
        rw [hi]
        simp only [hq, Bool.false_eq_true, if_false]
        unfold idxW
        cases List.findIdx? (fun e => eqW ⟨r.id, m.wl, m.wb⟩ e.1) ((tabW ws).drop (j + 1)) with
        | none => rfl
        | some i => simp; omega
      rcases Classical.propComplete (w.k.id = r.id) with q1 | q1
      · have p1 : (r.id = w.k.id) = True := eq_true (of_eq_true q1).symm
        rcases Classical.propComplete (w.k.l = m.wl) with q2 | q2
        · have p2 : (m.wl = w.k.l) = True := eq_true (of_eq_true q2).symm
          rcases Classical.propComplete (w.k.b = m.wb) with q3 | q3
          · have p3 : (m.wb = w.k.b) = True := eq_true (of_eq_true q3).symm
            have hq : eqW ⟨r.id, m.wl, m.wb⟩ w.k = true := by simp only [eqW, p1, p2, p3, sy, reduceIte, Nat.reduceAdd, Nat.reduceLeDiff, Nat.reduceLT, Nat.reduceEqDiff, Int.reduceEq, Int.reduceLT, Int.reduceLE, Int.reduceNe]
            simp only [hq, if_true, Option.map_some, Nat.zero_add] at hi
            have hi' : idxW m.tab ⟨r.id, m.wl, m.wb⟩ = some j := hi
            rw [hi']
            show _ = some ((1, [.int .i64 (j : Int)], s') : Cut)
            simp only [r12Seek_known.l2, sy, reduceIte, Nat.reduceAdd, Nat.reduceLeDiff, Nat.reduceLT, Nat.reduceEqDiff, Int.reduceEq, Int.reduceLT, Int.reduceLE, Int.reduceNe, ly, ldc_row hr, lda_row hr, hlen, e1, o4, ldc_row o3, lda_row o3, rg, q1, q2, q3]
          · have p3 : (m.wb = w.k.b) = False := eq_false fun e => of_eq_false q3 e.symm
            exact no (by simp only [eqW, p1, p2, p3, sy, reduceIte, Nat.reduceAdd, Nat.reduceLeDiff, Nat.reduceLT, Nat.reduceEqDiff, Int.reduceEq, Int.reduceLT, Int.reduceLE, Int.reduceNe]) (by simp only [r12Seek_known.l2, sy, reduceIte, Nat.reduceAdd, Nat.reduceLeDiff, Nat.reduceLT, Nat.reduceEqDiff, Int.reduceEq, Int.reduceLT, Int.reduceLE, Int.reduceNe, ly, ldc_row hr, lda_row hr, hlen, e1, o4, ldc_row o3, lda_row o3, rg, q1, q2, q3, e5])
        · have p2 : (m.wl = w.k.l) = False := eq_false fun e => of_eq_false q2 e.symm
          refine no (by simp only [eqW, p1, p2, sy, reduceIte, Nat.reduceAdd, Nat.reduceLeDiff, Nat.reduceLT, Nat.reduceEqDiff, Int.reduceEq, Int.reduceLT, Int.reduceLE, Int.reduceNe]) ?_
          rcases Classical.propComplete (w.k.b = m.wb) with q3 | q3
          · simp only [r12Seek_known.l2, sy, reduceIte, Nat.reduceAdd, Nat.reduceLeDiff, Nat.reduceLT, Nat.reduceEqDiff, Int.reduceEq, Int.reduceLT, Int.reduceLE, Int.reduceNe, ly, ldc_row hr, lda_row hr, hlen, e1, o4, ldc_row o3, lda_row o3, rg, q1, q2, q3, e5]
          · simp only [r12Seek_known.l2, sy, reduceIte, Nat.reduceAdd, Nat.reduceLeDiff, Nat.reduceLT, Nat.reduceEqDiff, Int.reduceEq, Int.reduceLT, Int.reduceLE, Int.reduceNe, ly, ldc_row hr, lda_row hr, hlen, e1, o4, ldc_row o3, lda_row o3, rg, q1, q2, q3, e5]
      · have p1 : (r.id = w.k.id) = False := eq_false fun e => of_eq_false q1 e.symm
        exact no (by simp only [eqW, p1, sy, reduceIte, Nat.reduceAdd, Nat.reduceLeDiff, Nat.reduceLT, Nat.reduceEqDiff, Int.reduceEq, Int.reduceLT, Int.reduceLE, Int.reduceNe]) (by simp only [r12Seek_known.l2, sy, reduceIte, Nat.reduceAdd, Nat.reduceLeDiff, Nat.reduceLT, Nat.reduceEqDiff, Int.reduceEq, Int.reduceLT, Int.reduceLE, Int.reduceNe, ly, ldc_row hr, lda_row hr, hlen, e1, o4, ldc_row o3, lda_row o3, rg, q1, e5])
  rw [show ((0 : Nat) : Int) = 0 from rfl] at loop
  cases hi : idxW m.tab ⟨r.id, m.wl, m.wb⟩ with
  | none =>
    rw [hi] at loop
    simp only [r12Seek_known.r, r12Seek_known.t, sy, reduceIte, Nat.reduceAdd, Nat.reduceLeDiff, Nat.reduceLT, Nat.reduceEqDiff, Int.reduceEq, Int.reduceLT, Int.reduceLE, Int.reduceNe, ly, loop, idI]
  | some i =>
    rw [hi] at loop
    simp only [r12Seek_known.r, r12Seek_known.t, sy, reduceIte, Nat.reduceAdd, Nat.reduceLeDiff, Nat.reduceLT, Nat.reduceEqDiff, Int.reduceEq, Int.reduceLT, Int.reduceLE, Int.reduceNe, ly, loop, idI, Nat.one_ne_zero]
end Go.Proofs.YteafgjpbfhjbjaaGreat
