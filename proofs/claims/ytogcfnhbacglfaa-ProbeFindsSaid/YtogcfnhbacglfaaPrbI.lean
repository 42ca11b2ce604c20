/-
  Answers in a graph of which some peers tell another one to their left; the breaks of one list.
-/
import Derived.Test.YtogcfnhbacglfaaWorB
set_option linter.unusedSimpArgs false
set_option linter.unusedVariables false
set_option maxRecDepth 100000
set_option maxHeartbeats 4000000
namespace Go.Proofs.Ytogcfnhbacglfaa
open Go.Sim Go.Sim.Bt
attribute [local congr] bdc cndc itec gdc gdSc gdUc

noncomputable def ansO (W : Wd) (odd : List Bool) (id wl wb : Int) : Ans :=
  if 0 ≤ id ∧ id < odd.length ∧ odd.getD id.toNat false = true ∧ (ansW W id wl wb).k = 1 then { ansW W id wl wb with l := headR W.h } else ansW W id wl wb
theorem answer_o {W : Wd} {ds odd : List Bool} {s : St} {lv dv ov : Value} {k : Int} {t : Rf} {a : AskP} {r : Res} (h : WdAt W ds s lv dv) (ho : IsR s 1 ov (odd.map BC)) (f : Fresh s) (hwb : 0 ≤ a.wb) :
    ∃ s', leapfroglaw19x_answer.v (WV W lv dv) ov (.agg ⟨stepC k t a r⟩) s = some (.agg ⟨(ansO W odd t.id a.wl a.wb).cs⟩, s') ∧ More s s' ∧ Fresh s' := by
  obtain ⟨s1, e1, m1, f1⟩ := answer_r (to := t) (wl := a.wl) (wb := a.wb) h f hwb
  have o1 := ho.more m1 f
  have hlen := o1.len
  rw [List.length_map] at hlen
  have hd := rhead_r W.h s1
  simp only [headR] at hd
  unfold ansO
  generalize ansW W t.id a.wl a.wb = x at *
  refine ⟨s1, ?_, m1, f1⟩
  by_cases c0 : 0 ≤ t.id
  · by_cases c1 : t.id < odd.length
    · obtain ⟨j, hj⟩ : ∃ j : Nat, t.id = j := ⟨t.id.toNat, by omega⟩
      obtain ⟨b, hb⟩ := get_some (l := odd) (j := j) (by omega)
      obtain ⟨all, ro, i1, i2, i3⟩ := o1.atB (bc_get hb)
      have hg : odd.getD t.id.toNat false = b := by rw [hj, Int.toNat_natCast, List.getD_eq_getElem?_getD, hb]; rfl
      rw [← hj] at i1
      cases b with
      | false =>
        rw [if_neg (by rw [hg]; simp)]
        simp only [leapfroglaw19x_answer.v, leapfroglaw19x_answer.t, sy, reduceIte, Nat.reduceAdd, Nat.reduceLeDiff, Nat.reduceLT, Nat.reduceEqDiff, Int.reduceEq, Int.reduceLT, Int.reduceLE, Int.reduceNe, ly, e1, c0, c1, hlen, i1, ldc_row i2, i3]
      | true =>
        by_cases c3 : x.k = 1
        · rw [if_pos ⟨c0, c1, hg, c3⟩]
          have c3 := eq_true c3
          simp only [leapfroglaw19x_answer.v, leapfroglaw19x_answer.t, sy, reduceIte, Nat.reduceAdd, Nat.reduceLeDiff, Nat.reduceLT, Nat.reduceEqDiff, Int.reduceEq, Int.reduceLT, Int.reduceLE, Int.reduceNe, ly, e1, c0, c1, hlen, i1, ldc_row i2, i3, c3, hd, headR]
        · rw [if_neg (fun e => c3 e.2.2.2)]
          simp only [leapfroglaw19x_answer.v, leapfroglaw19x_answer.t, sy, reduceIte, Nat.reduceAdd, Nat.reduceLeDiff, Nat.reduceLT, Nat.reduceEqDiff, Int.reduceEq, Int.reduceLT, Int.reduceLE, Int.reduceNe, ly, e1, c0, c1, hlen, i1, ldc_row i2, i3, c3]
    · rw [if_neg (fun e => c1 e.2.1)]
      simp only [leapfroglaw19x_answer.v, leapfroglaw19x_answer.t, sy, reduceIte, Nat.reduceAdd, Nat.reduceLeDiff, Nat.reduceLT, Nat.reduceEqDiff, Int.reduceEq, Int.reduceLT, Int.reduceLE, Int.reduceNe, ly, e1, c0, c1, hlen]
  · rw [if_neg (fun e => c0 e.1)]
    simp only [leapfroglaw19x_answer.v, leapfroglaw19x_answer.t, sy, reduceIte, Nat.reduceAdd, Nat.reduceLeDiff, Nat.reduceLT, Nat.reduceEqDiff, Int.reduceEq, Int.reduceLT, Int.reduceLE, Int.reduceNe, ly, e1, c0]

abbrev Z13 : List Value := [.int .i64 0, .bool false, .int .i64 0, .int .i64 0, .int .u64 0, .int .i64 0, .int .u64 0, .int .i64 0, .int .i64 0, .int .u64 0, .int .i64 0, .int .u64 0, .slice none 0 0]
theorem keep13 (s : St) (a : Ans) (f : Fresh s) : ∃ s1 s2, alv s (.agg ⟨Z13⟩) = some (PU s.n, s1) ∧ stv s1 13 (PU s.n) (.agg ⟨a.cs⟩) = some s2 ∧ s2.get s.n = some (.row 13 [a.cs] false) ∧ More s s2 ∧ Fresh s2 :=
  ⟨s.new (.row 13 [Z13] false), (s.new (.row 13 [Z13] false)).put s.n (.row 13 [a.cs] false), rfl, by rw [stv_row get_new_same]; rfl, get_put_same get_new_same, More.new.put (Nat.le_refl _), f.new.put⟩

/-! ### Breaks -/

noncomputable def brk (W : Wd) (odd : List Bool) (c : Pc) (i : Nat) : List Bk :=
  match c.ls[i]? with
  | none => []
  | some w =>
    if (ansO W odd c.me.id w.1 w.2).k = 1 ∧ lessK c.me.rk c.me.n (ansO W odd c.me.id w.1 w.2).r.rk (ansO W odd c.me.id w.1 w.2).r.n then
      foundC c ⟨i, true, (ansO W odd c.me.id w.1 w.2).r, []⟩ (ansO W odd (ansO W odd c.me.id w.1 w.2).r.id w.1 w.2) w
    else []
noncomputable def allB (W : Wd) (odd : List Bool) (c : Pc) (n : Nat) : List Bk := (List.range n).flatMap (brk W odd c)
theorem allB_succ (W : Wd) (odd : List Bool) (c : Pc) (n : Nat) : allB W odd c (n + 1) = allB W odd c n ++ brk W odd c n := by
  simp [allB, List.range_succ]
theorem brk_len (W : Wd) (odd : List Bool) (c : Pc) (i : Nat) : (brk W odd c i).length ≤ 1 := by
  unfold brk
  split
  · simp
  · split
    · exact found_len _ _ _ _
    · simp
theorem allB_len (W : Wd) (odd : List Bool) (c : Pc) : ∀ n, (allB W odd c n).length ≤ n
  | 0 => by simp [allB]
  | n + 1 => by
    rw [allB_succ, List.length_append]
    have := allB_len W odd c n
    have := brk_len W odd c n
    omega
/-- A probe on its way. -/
structure OnWay (W : Wd) (odd : List Bool) (c : Pc) (m : Pm) : Prop where
  l : m.L = allB W odd c m.at_
  b : m.bes = true → ∃ w, c.ls[m.at_]? = some w ∧ (ansO W odd c.me.id w.1 w.2).k = 1 ∧ lessK c.me.rk c.me.n (ansO W odd c.me.id w.1 w.2).r.rk (ansO W odd c.me.id w.1 w.2).r.n ∧ m.x = (ansO W odd c.me.id w.1 w.2).r
def wayN (m : Pm) : Nat := 2 * m.at_ + (if m.bes = true then 1 else 0)
theorem onWay_tell {W : Wd} {odd : List Bool} {c : Pc} {m : Pm} (h : OnWay W odd c m) {w : Int × Int} (hw : c.ls[m.at_]? = some w) :
    OnWay W odd c (tellC c m (ansO W odd (if m.bes = true then m.x else c.me).id w.1 w.2)) ∧ wayN m + 1 ≤ wayN (tellC c m (ansO W odd (if m.bes = true then m.x else c.me).id w.1 w.2)) := by
  unfold tellC
  rw [hw]
  cases hb : m.bes with
  | true =>
    simp only [if_true]
    obtain ⟨w', g0, g1, g2, g3⟩ := h.b hb
    rw [hw] at g0; cases g0
    refine ⟨⟨?_, fun e => by simp at e⟩, by unfold wayN; simp [hb]; omega⟩
    simp only
    rw [allB_succ, h.l]
    congr 1
    unfold brk
    rw [hw]
    simp only
    rw [if_pos ⟨g1, g2⟩, ← g3]
    unfold foundC
    rfl
  | false =>
    simp only [Bool.false_eq_true, if_false]
    split
    · rename_i g
      refine ⟨⟨h.l, fun _ => ⟨w, hw, g.1, g.2, rfl⟩⟩, by unfold wayN; simp [hb]⟩
    · rename_i g
      refine ⟨⟨?_, fun e => by simp at e⟩, by unfold wayN; simp [hb]; omega⟩
      simp only
      rw [allB_succ, h.l]
      unfold brk
      rw [hw]
      simp only
      rw [if_neg g, List.append_nil]
end Go.Proofs.Ytogcfnhbacglfaa
