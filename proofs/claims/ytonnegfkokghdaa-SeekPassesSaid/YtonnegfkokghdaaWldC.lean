/-
  Worlds in the program's memory: lists, who is dead, answers.
-/
import Derived.Test.YtonnegfkokghdaaWldB
set_option linter.unusedSimpArgs false
set_option linter.unusedVariables false
set_option maxRecDepth 100000
set_option maxHeartbeats 2000000
namespace Go.Proofs.Ytonnegfkokghdaa
open Go.Sim Go.Sim.Bt
attribute [local congr] bdc cndc itec gdc gdSc gdUc

def deadOf (ds : List Bool) (id : Int) : Bool := decide (2 ≤ id) && ds.getD (id - 2).toNat false
/-- A world in memory. -/
structure WdAt (W : Wd) (ds : List Bool) (s : St) (lv dv : Value) : Prop where
  l : IsR s 5 lv (W.L.map Rf.cs)
  d : IsR s 1 dv (ds.map fun b => [.bool b])
  dd : W.dead = deadOf ds
  ok : OkW W
  n20 : W.L.length ≤ 20
  dn : ds.length = W.L.length
abbrev WV (W : Wd) (lv dv : Value) : Value := .agg ⟨[.int .i64 W.h, lv, dv]⟩
theorem WdAt.more {W : Wd} {ds : List Bool} {s s' : St} {lv dv : Value} (h : WdAt W ds s lv dv) (m : More s s') (f : Fresh s) : WdAt W ds s' lv dv := ⟨h.l.more m f, h.d.more m f, h.dd, h.ok, h.n20, h.dn⟩
theorem WdAt.stp {ks : List Nat} {W : Wd} {ds : List Bool} {s s' : St} {lv dv : Value} (h : WdAt W ds s lv dv) (m : StpK ks s s') (h1 : 5 ∉ ks) (h2 : 1 ∉ ks) : WdAt W ds s' lv dv := ⟨h.l.stp m h1, h.d.stp m h2, h.dd, h.ok, h.n20, h.dn⟩
theorem WdAt.frz {W : Wd} {ds : List Bool} {s : St} {lv dv : Value} (h : WdAt W ds s lv dv) : WdAt W ds s.frz lv dv := ⟨h.l.frz, h.d.frz, h.dd, h.ok, h.n20, h.dn⟩
theorem rtail_r (h : Int) (s : St) : leapfrogref12x_Tail.r (.int .i64 h) s = some (.agg ⟨(tailR h).cs⟩) := by
  simp only [leapfrogref12x_Tail.r, leapfrogref12x_Tail.t, sy, reduceIte, Nat.reduceAdd, Nat.reduceLeDiff, Nat.reduceLT, Nat.reduceEqDiff, Int.reduceEq, Int.reduceLT, Int.reduceLE, Int.reduceNe, ly, tailR]
theorem cs_get {l : List Rf} {j : Nat} {x : Rf} (h : l[j]? = some x) : (l.map Rf.cs)[j]? = some x.cs := by rw [List.getElem?_map, h]; rfl
theorem list_r {W : Wd} {ds : List Bool} {lv dv : Value} {wl wb : Int} {s : St} (h : WdAt W ds s lv dv) (f : Fresh s) (hwb : 0 ≤ wb) :
    ∃ v' s', leapfroglaw12x_World_list.v (WV W lv dv) (VI wl wb) s = some (v', s') ∧ IsR s' 5 v' ((lst W wl wb).map Rf.cs) ∧ More s s' ∧ Fresh s' := by
  have hd := rhead_r W.h s
  have m1 : More s (s.new (.row 5 [(headR W.h).cs] false)) := .new
  have u1 : Ful s.n (s.new (.row 5 [(headR W.h).cs] false)) 5 (.slice (some ⟨s.n, 0, some 0⟩) 1 2) [(headR W.h).cs] := ful_one (Nat.le_refl _)
  have f1 := m1.fresh f
  generalize hs1 : s.new (.row 5 [(headR W.h).cs] false) = s1 at *
  have main : ∃ v' s', iter (leapfroglaw12x_World_list.l3 std) BIG [.slice (some ⟨s.n, 0, some 0⟩) 1 2, .int .i64 ((0 : Nat) : Int), WV W lv dv, VI wl wb] s1 = some ((0, [v', WV W lv dv], s') : Cut) ∧ Ful s.n s' 5 v' ((headR W.h :: W.L.filter (inL wl wb)).map Rf.cs) ∧ More s s' ∧ Fresh s' := by
    refine iter_rel (fun d xs s' => ∃ v i, Ful s.n s' 5 v ((headR W.h :: (W.L.take i).filter (inL wl wb)).map Rf.cs) ∧ More s s' ∧ Fresh s' ∧ i + d = W.L.length ∧ xs = [v, .int .i64 (i : Int), WV W lv dv, VI wl wb])
      (fun y : Option Cut => ∃ v' s', y = some ((0, [v', WV W lv dv], s') : Cut) ∧ Ful s.n s' 5 v' ((headR W.h :: W.L.filter (inL wl wb)).map Rf.cs) ∧ More s s' ∧ Fresh s') ?_ BIG W.L.length _ s1 (by have := h.n20; unfold BIG; omega) ⟨_, 0, by simpa using u1, m1, f1, by omega, rfl⟩
    rintro d xs s2 rec ⟨v, i, hv, hm, hf, hi, rfl⟩ ih
    have h2 := h.more hm f
    have hlen := h2.l.len
    rw [List.length_map] at hlen
    have n20 := h.n20
    cases d with
    | zero =>
      have e1 : ¬ ((i : Int) < W.L.length) := by omega
      refine ⟨v, s2, by simp only [leapfroglaw12x_World_list.l3, sy, reduceIte, Nat.reduceAdd, Nat.reduceLeDiff, Nat.reduceLT, Nat.reduceEqDiff, Int.reduceEq, Int.reduceLT, Int.reduceLE, Int.reduceNe, ly, hlen, e1], ?_, hm, hf⟩
      rw [List.take_of_length_le (by omega)] at hv
      exact hv
    | succ d =>
      have e1 : (i : Int) < W.L.length := by omega
      obtain ⟨x, hx⟩ := get_some (l := W.L) (j := i) (by omega)
      have e5 : IntKind.i64.wrap ((i : Int) + 1) = ((i + 1 : Nat) : Int) := by rw [wrap64 (by omega) (by omega)]; omega
      have htk : W.L.take (i + 1) = W.L.take i ++ [x] := by rw [List.take_add_one, hx]; rfl
      obtain ⟨b2, all2, ro2, c1, c2, c3⟩ := h2.l.at (cs_get hx)
      have bg := rbegins_i x.ln x.bt wl wb (h.ok.vec x (List.mem_of_getElem? hx)).2.1 hwb s2 hf
      cases hb : inL wl wb x with
      | false =>
        have hb' := hb
        unfold inL at hb'
        rw [hb'] at bg
        have fin : leapfroglaw12x_World_list.l3 std rec [v, .int .i64 (i : Int), WV W lv dv, VI wl wb] s2 = rec [v, .int .i64 ((i + 1 : Nat) : Int), WV W lv dv, VI wl wb] s2 := by
          simp only [leapfroglaw12x_World_list.l3, sy, reduceIte, Nat.reduceAdd, Nat.reduceLeDiff, Nat.reduceLT, Nat.reduceEqDiff, Int.reduceEq, Int.reduceLT, Int.reduceLE, Int.reduceNe, ly, hlen, e1, c1, lda_row c2, c3, bg, e5]
        rw [fin]
        exact ih d _ _ (by omega) ⟨v, i + 1, by rw [htk, List.filter_append]; simpa [hb] using hv, hm, hf, by omega, rfl⟩
      | true =>
        have hb' := hb
        unfold inL at hb'
        rw [hb'] at bg
        have hl : ((headR W.h :: (W.L.take i).filter (inL wl wb)).map Rf.cs).length ≤ 21 := by
          rw [List.length_map, List.length_cons]
          have := List.length_filter_le (inL wl wb) (W.L.take i)
          rw [List.length_take] at this
          omega
        obtain ⟨v2, s3, g1, g2, g3, g4, _⟩ := push hf hv hm (by_ := 40) x.cs (by omega) (by omega)
        have fin : leapfroglaw12x_World_list.l3 std rec [v, .int .i64 (i : Int), WV W lv dv, VI wl wb] s2 = rec [v2, .int .i64 ((i + 1 : Nat) : Int), WV W lv dv, VI wl wb] s3 := by
          simp only [leapfroglaw12x_World_list.l3, sy, reduceIte, Nat.reduceAdd, Nat.reduceLeDiff, Nat.reduceLT, Nat.reduceEqDiff, Int.reduceEq, Int.reduceLT, Int.reduceLE, Int.reduceNe, ly, hlen, e1, c1, lda_row c2, c3, bg, als_eq, Nat.reduceMul, g1, e5]
        rw [fin]
        refine ih d _ _ (by omega) ⟨v2, i + 1, ?_, g2, g4, by omega, rfl⟩
        rw [htk, List.filter_append, show [x].filter (inL wl wb) = [x] by simp [hb], ← List.cons_append, List.map_append]
        exact g3
  obtain ⟨v', s', e, q1, q2, q3⟩ := main
  rw [show ((0 : Nat) : Int) = 0 from rfl] at e
  have hl : ((headR W.h :: W.L.filter (inL wl wb)).map Rf.cs).length ≤ 21 := by
    rw [List.length_map, List.length_cons]
    have := List.length_filter_le (inL wl wb) W.L
    have := h.n20
    omega
  obtain ⟨v2, s3, g1, g2, g3, g4, _⟩ := push q3 q1 q2 (by_ := 40) (tailR W.h).cs (by omega) (by omega)
  have ht := rtail_r W.h s'
  refine ⟨v2, s3, ?_, ?_, g2, g4⟩
  · rw [← hs1] at e
    simp only [leapfroglaw12x_World_list.v, leapfroglaw12x_World_list.t, sy, reduceIte, Nat.reduceAdd, Nat.reduceLeDiff, Nat.reduceLT, Nat.reduceEqDiff, Int.reduceEq, Int.reduceLT, Int.reduceLE, Int.reduceNe, ly, hd, e, ht, als_eq, Nat.reduceMul, g1]
  · have e2 : (lst W wl wb).map Rf.cs = (headR W.h :: W.L.filter (inL wl wb)).map Rf.cs ++ [(tailR W.h).cs] := by unfold lst; simp
    rw [e2]
    exact g3.isR
theorem ds_get {ds : List Bool} {j : Nat} {b : Bool} (h : ds[j]? = some b) : (ds.map fun b => [Value.bool b])[j]? = some [.bool b] := by rw [List.getElem?_map, h]; rfl
theorem gone_r {W : Wd} {ds : List Bool} {lv dv : Value} {s : St} (h : WdAt W ds s lv dv) (id : Int) : leapfroglaw12x_World_gone.r (WV W lv dv) (.int .i64 id) s = some (.bool (W.dead id)) := by
  have hlen := h.d.len
  rw [List.length_map] at hlen
  have hn := h.dn
  have n20 := h.n20
  have ew : IntKind.i64.wrap ((ds.length : Int) + 2) = (ds.length : Int) + 2 := wrap64 (by omega) (by omega)
  rw [h.dd]
  unfold deadOf
  rcases Classical.propComplete (2 ≤ id) with k1 | k1
  · have k1' := of_eq_true k1
    rcases Classical.propComplete (id < (ds.length : Int) + 2) with k2 | k2
    · have k2' := of_eq_true k2
      obtain ⟨b, hb⟩ := get_some (l := ds) (j := (id - 2).toNat) (by omega)
      obtain ⟨b2, all2, ro2, c1, c2, c3⟩ := h.d.at (ds_get hb)
      have ew2 : IntKind.i64.wrap (id - 2) = (((id - 2).toNat : Nat) : Int) := by rw [wrap64 (by omega) (by omega)]; omega
      have hd : ds.getD (id - 2).toNat false = b := by rw [List.getD_eq_getElem?_getD, hb]; rfl
      rw [hd]
      cases b <;> simp only [leapfroglaw12x_World_gone.r, leapfroglaw12x_World_gone.t, sy, reduceIte, Nat.reduceAdd, Nat.reduceLeDiff, Nat.reduceLT, Nat.reduceEqDiff, Int.reduceEq, Int.reduceLT, Int.reduceLE, Int.reduceNe, ly, k1, hlen, ew, k2, ew2, c1, ldc_row c2, c3]
    · have k2' := of_eq_false k2
      have hd : ds.getD (id - 2).toNat false = false := by rw [List.getD_eq_getElem?_getD, List.getElem?_eq_none (by omega)]; rfl
      rw [hd]
      simp only [leapfroglaw12x_World_gone.r, leapfroglaw12x_World_gone.t, sy, reduceIte, Nat.reduceAdd, Nat.reduceLeDiff, Nat.reduceLT, Nat.reduceEqDiff, Int.reduceEq, Int.reduceLT, Int.reduceLE, Int.reduceNe, ly, k1, hlen, ew, k2]
  · simp only [leapfroglaw12x_World_gone.r, leapfroglaw12x_World_gone.t, sy, reduceIte, Nat.reduceAdd, Nat.reduceLeDiff, Nat.reduceLT, Nat.reduceEqDiff, Int.reduceEq, Int.reduceLT, Int.reduceLE, Int.reduceNe, ly, k1]
theorem ans_loop {W : Wd} {ds : List Bool} {lv dv v : Value} {wl wb : Int} {to : Rf} {s : St} (h : WdAt W ds s lv dv) (hv : IsR s 5 v ((lst W wl wb).map Rf.cs)) :
    iter (leapfroglaw12x_World_Answer.l3 std) BIG [v, .int .i64 ((0 : Nat) : Int), WV W lv dv, .agg ⟨to.cs⟩, .agg ⟨(⟨0, false, zR, zR, .slice none 0 0⟩ : Ans).cs⟩] s =
      (match (lst W wl wb).findIdx? fun r => decide (r.id = to.id) with
        | none => some ((0, [.agg ⟨(⟨0, false, zR, zR, .slice none 0 0⟩ : Ans).cs⟩], s) : Cut)
        | some _ => some ((1, [.agg ⟨(ansW W to.id wl wb).cs⟩], s) : Cut)) := by
  have hll := lst_len W wl wb
  have n20 := h.n20
  have hlen := hv.len
  rw [List.length_map] at hlen
  refine iter_rel (fun d xs s' => ∃ i : Nat, (∀ r ∈ (lst W wl wb).take i, r.id ≠ to.id) ∧ i + d = (lst W wl wb).length ∧ s' = s ∧ xs = [v, .int .i64 (i : Int), WV W lv dv, .agg ⟨to.cs⟩, .agg ⟨(⟨0, false, zR, zR, .slice none 0 0⟩ : Ans).cs⟩])
    (fun y : Option Cut => y = (match (lst W wl wb).findIdx? fun r => decide (r.id = to.id) with
        | none => some ((0, [.agg ⟨(⟨0, false, zR, zR, .slice none 0 0⟩ : Ans).cs⟩], s) : Cut)
        | some _ => some ((1, [.agg ⟨(ansW W to.id wl wb).cs⟩], s) : Cut))) ?_ BIG (lst W wl wb).length _ s (by unfold BIG; omega) ⟨0, by simp, by omega, rfl, rfl⟩
  rintro d xs s2 rec ⟨i, hno, hi, rfl, rfl⟩ ih
  cases d with
  | zero =>
    have e1 : ¬ ((i : Int) < (lst W wl wb).length) := by omega
    have hf : (lst W wl wb).findIdx? (fun r => decide (r.id = to.id)) = none := by
      rw [List.findIdx?_eq_none_iff]
      intro r hr
      rw [List.take_of_length_le (by omega)] at hno
      simpa using hno r hr
    rw [hf]
    simp only [leapfroglaw12x_World_Answer.l3, sy, reduceIte, Nat.reduceAdd, Nat.reduceLeDiff, Nat.reduceLT, Nat.reduceEqDiff, Int.reduceEq, Int.reduceLT, Int.reduceLE, Int.reduceNe, ly, hlen, e1]
  | succ d =>
    have e1 : (i : Int) < (lst W wl wb).length := by omega
    obtain ⟨x, hx⟩ := get_some (l := lst W wl wb) (j := i) (by omega)
    have e5 : IntKind.i64.wrap ((i : Int) + 1) = ((i + 1 : Nat) : Int) := by rw [wrap64 (by omega) (by omega)]; omega
    have htk : (lst W wl wb).take (i + 1) = (lst W wl wb).take i ++ [x] := by rw [List.take_add_one, hx]; rfl
    obtain ⟨b2, all2, ro2, c1, c2, c3⟩ := hv.at (cs_get hx)
    rcases Classical.propComplete (x.id = to.id) with k1 | k1
    · have hf : (lst W wl wb).findIdx? (fun r => decide (r.id = to.id)) = some i := by
        have hsp : lst W wl wb = (lst W wl wb).take i ++ x :: (lst W wl wb).drop (i + 1) := by
          rw [← drop_get hx, List.take_append_drop]
        have := findIdx_split (lst_inj h.ok wl wb) hsp
        rw [of_eq_true k1, List.length_take] at this
        rw [this]; congr 1; omega
      have hg := gone_r h to.id
      have hans : ansW W to.id wl wb = ⟨if W.dead to.id = true then 3 else 1, false, if 0 < i then (lst W wl wb).getD (i - 1) zR else zR, (lst W wl wb).getD (i + 1) zR, .slice none 0 0⟩ := by
        unfold ansW; rw [hf]
      rw [hf]
      simp only []
      rw [hans]
      -- the left side
      obtain ⟨lx, hlx⟩ : ∃ lx, lx = (if 0 < i then (lst W wl wb).getD (i - 1) zR else zR) := ⟨_, rfl⟩
      obtain ⟨rx, hrx⟩ : ∃ rx, rx = (lst W wl wb).getD (i + 1) zR := ⟨_, rfl⟩
      rw [← hlx, ← hrx]
      have eg : (((i : Int) > 0) = (0 < i)) := by apply propext; omega
      by_cases hi0 : 0 < i
      · have k0 : ((0 : Int) < (i : Int)) = True := eq_true (by omega)
        obtain ⟨y, hy⟩ := get_some (l := lst W wl wb) (j := i - 1) (by omega)
        have e6 : IntKind.i64.wrap ((i : Int) - 1) = ((i - 1 : Nat) : Int) := by rw [wrap64 (by omega) (by omega)]; omega
        obtain ⟨b3, all3, ro3, x1, x2, x3⟩ := hv.at (cs_get hy)
        rw [if_pos hi0, List.getD_eq_getElem?_getD, hy] at hlx
        simp only [Option.getD_some] at hlx
        subst hlx
        by_cases hi1 : i + 1 < (lst W wl wb).length
        · have k2 : (((i + 1 : Nat) : Int) < (lst W wl wb).length) = True := eq_true (by omega)
          obtain ⟨z, hz⟩ := get_some (l := lst W wl wb) (j := i + 1) hi1
          obtain ⟨b4, all4, ro4, z1, z2, z3⟩ := hv.at (cs_get hz)
          rw [List.getD_eq_getElem?_getD, hz] at hrx
          simp only [Option.getD_some] at hrx
          subst hrx
          cases hdd : W.dead to.id <;> rw [hdd] at hg <;> simp only [leapfroglaw12x_World_Answer.l3, leapfroglaw12x_World_Answer.l3.p1, sy, reduceIte, Nat.reduceAdd, Nat.reduceLeDiff, Nat.reduceLT, Nat.reduceEqDiff, Int.reduceEq, Int.reduceLT, Int.reduceLE, Int.reduceNe, ly, hlen, e1, c1, ldc_row c2, c3, k1, hg, k0, e6, x1, lda_row x2, x3, e5, k2, z1, lda_row z2, z3]
        · have k2 : (((i + 1 : Nat) : Int) < (lst W wl wb).length) = False := eq_false (by omega)
          rw [List.getD_eq_getElem?_getD, List.getElem?_eq_none (by omega)] at hrx
          simp only [Option.getD_none] at hrx
          subst hrx
          cases hdd : W.dead to.id <;> rw [hdd] at hg <;> simp only [leapfroglaw12x_World_Answer.l3, leapfroglaw12x_World_Answer.l3.p1, sy, reduceIte, Nat.reduceAdd, Nat.reduceLeDiff, Nat.reduceLT, Nat.reduceEqDiff, Int.reduceEq, Int.reduceLT, Int.reduceLE, Int.reduceNe, ly, hlen, e1, c1, ldc_row c2, c3, k1, hg, k0, e6, x1, lda_row x2, x3, e5, k2]
      · have k0 : ((0 : Int) < (i : Int)) = False := eq_false (by omega)
        rw [if_neg hi0] at hlx
        subst hlx
        by_cases hi1 : i + 1 < (lst W wl wb).length
        · have k2 : (((i + 1 : Nat) : Int) < (lst W wl wb).length) = True := eq_true (by omega)
          obtain ⟨z, hz⟩ := get_some (l := lst W wl wb) (j := i + 1) hi1
          obtain ⟨b4, all4, ro4, z1, z2, z3⟩ := hv.at (cs_get hz)
          rw [List.getD_eq_getElem?_getD, hz] at hrx
          simp only [Option.getD_some] at hrx
          subst hrx
          cases hdd : W.dead to.id <;> rw [hdd] at hg <;> simp only [leapfroglaw12x_World_Answer.l3, leapfroglaw12x_World_Answer.l3.p1, sy, reduceIte, Nat.reduceAdd, Nat.reduceLeDiff, Nat.reduceLT, Nat.reduceEqDiff, Int.reduceEq, Int.reduceLT, Int.reduceLE, Int.reduceNe, ly, hlen, e1, c1, ldc_row c2, c3, k1, hg, k0, e5, k2, z1, lda_row z2, z3]
        · have k2 : (((i + 1 : Nat) : Int) < (lst W wl wb).length) = False := eq_false (by omega)
          rw [List.getD_eq_getElem?_getD, List.getElem?_eq_none (by omega)] at hrx
          simp only [Option.getD_none] at hrx
          subst hrx
          cases hdd : W.dead to.id <;> rw [hdd] at hg <;> simp only [leapfroglaw12x_World_Answer.l3, leapfroglaw12x_World_Answer.l3.p1, sy, reduceIte, Nat.reduceAdd, Nat.reduceLeDiff, Nat.reduceLT, Nat.reduceEqDiff, Int.reduceEq, Int.reduceLT, Int.reduceLE, Int.reduceNe, ly, hlen, e1, c1, ldc_row c2, c3, k1, hg, k0, e5, k2]
    · have fin : leapfroglaw12x_World_Answer.l3 std rec [v, .int .i64 (i : Int), WV W lv dv, .agg ⟨to.cs⟩, .agg ⟨(⟨0, false, zR, zR, .slice none 0 0⟩ : Ans).cs⟩] s2 = rec [v, .int .i64 ((i + 1 : Nat) : Int), WV W lv dv, .agg ⟨to.cs⟩, .agg ⟨(⟨0, false, zR, zR, .slice none 0 0⟩ : Ans).cs⟩] s2 := by
        simp only [leapfroglaw12x_World_Answer.l3, sy, reduceIte, Nat.reduceAdd, Nat.reduceLeDiff, Nat.reduceLT, Nat.reduceEqDiff, Int.reduceEq, Int.reduceLT, Int.reduceLE, Int.reduceNe, ly, hlen, e1, c1, ldc_row c2, c3, k1, e5]
      rw [fin]
      refine ih d _ _ (by omega) ⟨i + 1, ?_, by omega, rfl, rfl⟩
      intro r hr
      rw [htk, List.mem_append, List.mem_singleton] at hr
      rcases hr with hr | rfl
      · exact hno r hr
      · exact of_eq_false k1
theorem answer_r {W : Wd} {ds : List Bool} {lv dv : Value} {wl wb : Int} {to : Rf} {s : St} (h : WdAt W ds s lv dv) (f : Fresh s) (hwb : 0 ≤ wb) :
    ∃ s', leapfroglaw12x_World_Answer.v (WV W lv dv) (.agg ⟨to.cs⟩) (VI wl wb) s = some (.agg ⟨(ansW W to.id wl wb).cs⟩, s') ∧ More s s' ∧ Fresh s' := by
  obtain ⟨v, s1, e1, h1, m1, f1⟩ := list_r (wl := wl) h f hwb
  have e2 := ans_loop (to := to) (h.more m1 f) h1
  rw [show ((0 : Nat) : Int) = 0 from rfl] at e2
  cases hf : (lst W wl wb).findIdx? fun r => decide (r.id = to.id) with
  | none =>
    rw [hf] at e2
    have ha : ansW W to.id wl wb = ⟨2, false, zR, zR, .slice none 0 0⟩ := by unfold ansW; rw [hf]
    rw [ha]
    exact ⟨s1, by simp only [leapfroglaw12x_World_Answer.v, leapfroglaw12x_World_Answer.t, sy, reduceIte, Nat.reduceAdd, Nat.reduceLeDiff, Nat.reduceLT, Nat.reduceEqDiff, Int.reduceEq, Int.reduceLT, Int.reduceLE, Int.reduceNe, ly, e1, e2], m1, f1⟩
  | some i =>
    rw [hf] at e2
    generalize ansW W to.id wl wb = aw at *
    exact ⟨s1, by simp only [leapfroglaw12x_World_Answer.v, leapfroglaw12x_World_Answer.t, sy, reduceIte, Nat.reduceAdd, Nat.reduceLeDiff, Nat.reduceLT, Nat.reduceEqDiff, Int.reduceEq, Int.reduceLT, Int.reduceLE, Int.reduceNe, ly, e1, e2, Nat.one_ne_zero], m1, f1⟩
end Go.Proofs.Ytonnegfkokghdaa
