/-
  Worlds, in memory and made (the parts of WldC, WldE, SekW that no search stands in).
-/
import Derived.Test.YtogcfnhbacglfaaWldB
import Derived.Test.YtogcfnhbacglfaaMachC
set_option linter.unusedSimpArgs false
set_option linter.unusedVariables false
set_option maxRecDepth 100000
set_option maxHeartbeats 2000000
namespace Go.Proofs.Ytogcfnhbacglfaa
open Go.Sim Go.Sim.Bt
attribute [local congr] bdc cndc itec gdc gdSc gdUc

def headR (h : Int) : Rf := ⟨0, 1, 0, h, 0⟩
theorem rhead_r (h : Int) (s : St) : leapfrogref12x_Head.r (.int .i64 h) s = some (.agg ⟨(headR h).cs⟩) := by
  simp only [leapfrogref12x_Head.r, leapfrogref12x_Head.t, sy, reduceIte, Nat.reduceAdd, Nat.reduceLeDiff, Nat.reduceLT, Nat.reduceEqDiff, Int.reduceEq, Int.reduceLT, Int.reduceLE, Int.reduceNe, ly, headR]
structure Wd where
  h : Nat
  L : List Rf
  dead : Int → Bool
open Classical in
noncomputable def inL (wl wb : Int) (r : Rf) : Bool := decide (BG r.ln r.bt wl wb)
def tailR (h : Int) : Rf := ⟨1, 3, 0, h, 0⟩
noncomputable def lst (W : Wd) (wl wb : Int) : List Rf := headR W.h :: (W.L.filter (inL wl wb) ++ [tailR W.h])
structure OkW (W : Wd) : Prop where
  h32 : W.h ≤ 32
  rk : ∀ r ∈ W.L, r.rk = 2
  vec : ∀ r ∈ W.L, r.ln = W.h ∧ 0 ≤ r.bt ∧ r.bt < ((2 ^ W.h : Nat) : Int)
  ids : ∀ r ∈ W.L, 2 ≤ r.id
  inj : W.L.Pairwise fun a b => a.id ≠ b.id
  ris : W.L.Pairwise fun a b => a.n < b.n
  hd : W.dead 0 = false
  td : W.dead 1 = false
/-- What a peer answers. -/
noncomputable def ansW (W : Wd) (id wl wb : Int) : Ans :=
  match (lst W wl wb).findIdx? fun r => decide (r.id = id) with
  | none => ⟨2, false, zR, zR, .slice none 0 0⟩
  | some i => ⟨if W.dead id = true then 3 else 1, false, if 0 < i then (lst W wl wb).getD (i - 1) zR else zR, (lst W wl wb).getD (i + 1) zR, .slice none 0 0⟩
theorem lst_mem {W : Wd} {wl wb : Int} {r : Rf} (h : r ∈ lst W wl wb) : r = headR W.h ∨ (r ∈ W.L ∧ BG r.ln r.bt wl wb) ∨ r = tailR W.h := by
  unfold lst inL at h
  simp only [List.mem_cons, List.mem_append, List.mem_filter, decide_eq_true_eq, List.mem_singleton, List.not_mem_nil, or_false] at h
  rcases h with h | h | h
  · exact .inl h
  · exact .inr (.inl h)
  · exact .inr (.inr h)
theorem lst_inj {W : Wd} (h : OkW W) (wl wb : Int) : (lst W wl wb).Pairwise fun a b => a.id ≠ b.id := by
  unfold lst
  rw [List.pairwise_cons]
  refine ⟨fun r hr => ?_, ?_⟩
  · simp only [List.mem_append, List.mem_filter, List.mem_singleton] at hr
    rcases hr with hr | rfl
    · have := h.ids r hr.1; simp only [headR]; omega
    · simp [headR, tailR]
  · rw [List.pairwise_append]
    refine ⟨h.inj.filter _, List.pairwise_singleton _ _, fun a ha b hb => ?_⟩
    simp only [List.mem_singleton] at hb
    subst hb
    have := h.ids a (List.mem_filter.1 ha).1
    simp only [tailR]; omega
theorem lst_ris {W : Wd} (h : OkW W) (wl wb : Int) : (lst W wl wb).Pairwise fun a b => lessK a.rk a.n b.rk b.n := by
  unfold lst
  rw [List.pairwise_cons]
  refine ⟨fun r hr => ?_, ?_⟩
  · simp only [List.mem_append, List.mem_filter, List.mem_singleton] at hr
    rcases hr with hr | rfl
    · have := h.rk r hr.1; simp only [headR, lessK]; omega
    · simp [headR, tailR, lessK]
  · rw [List.pairwise_append]
    refine ⟨?_, List.pairwise_singleton _ _, fun a ha b hb => ?_⟩
    · refine List.Pairwise.filter _ ?_
      refine List.Pairwise.imp_of_mem ?_ h.ris
      intro a b ha hb hab
      have := h.rk a ha; have := h.rk b hb
      unfold lessK; omega
    · simp only [List.mem_singleton] at hb
      subst hb
      have := h.rk a (List.mem_filter.1 ha).1
      simp only [tailR, lessK]; omega
theorem lst_okK {W : Wd} (h : OkW W) {wl wb : Int} {r : Rf} (hr : r ∈ lst W wl wb) : okK r.rk r.n := by
  rcases lst_mem hr with rfl | ⟨g, _⟩ | rfl
  · simp [headR, okK]
  · exact .inl (h.rk r g)
  · simp [tailR, okK]
theorem findIdx_split {p q : List Rf} {r : Rf} {l : List Rf} (hp : l.Pairwise fun a b => a.id ≠ b.id) (h : l = p ++ r :: q) : l.findIdx? (fun x => decide (x.id = r.id)) = some p.length := by
  subst h
  rw [List.findIdx?_append]
  have : p.findIdx? (fun x => decide (x.id = r.id)) = none := by
    rw [List.findIdx?_eq_none_iff]
    intro x hx
    rw [List.pairwise_append] at hp
    have := hp.2.2 x hx r (by simp)
    simp [this]
  rw [this]
  simp [List.findIdx?_cons]
theorem ansW_at {W : Wd} (h : OkW W) {wl wb : Int} {p q : List Rf} {r : Rf} (hs : lst W wl wb = p ++ r :: q) :
    ansW W r.id wl wb = ⟨if W.dead r.id = true then 3 else 1, false, p.getLastD zR, q.headD zR, .slice none 0 0⟩ := by
  unfold ansW
  rw [findIdx_split (lst_inj h wl wb) hs]
  simp only []
  congr 1
  · rw [hs]
    cases hp : p.length with
    | zero => rw [List.eq_nil_of_length_eq_zero hp]; simp
    | succ k =>
      have hne : p ≠ [] := by rintro rfl; simp at hp
      rw [if_pos (by omega), List.getD_eq_getElem?_getD, List.getElem?_append_left (by omega)]
      simp only [Nat.add_sub_cancel]
      have e2 : p[k]? = p.getLast? := by rw [List.getLast?_eq_getElem?, hp]; simp
      rw [e2, List.getLastD_eq_getLast?]
  · rw [hs, List.getD_eq_getElem?_getD, List.getElem?_append_right (by omega)]
    rw [show p.length + 1 - p.length = 1 by omega]
    cases q <;> rfl
theorem lst_len (W : Wd) (wl wb : Int) : (lst W wl wb).length ≤ W.L.length + 2 := by
  unfold lst
  have := List.length_filter_le (inL wl wb) W.L
  simp only [List.length_cons, List.length_append, List.length_nil]
  omega
def deadOf (ds : List Bool) (id : Int) : Bool := decide (2 ≤ id) && ds.getD (id - 2).toNat false
/-- A world in memory. -/
structure WdAt (W : Wd) (ds : List Bool) (s : St) (lv dv : Value) : Prop where
  l : IsR s 5 lv (W.L.map Rf.cs)
  d : IsR s 1 dv (ds.map fun b => [.bool b])
  dd : W.dead = deadOf ds
  ok : OkW W
  n20 : W.L.length ≤ 20
  dn : ds.length = W.L.length
abbrev WV (W : Wd) (lv dv : Value) : Value := .agg ⟨[.int .i64 W.h, lv, dv]⟩
theorem WdAt.more {W : Wd} {ds : List Bool} {s s' : St} {lv dv : Value} (h : WdAt W ds s lv dv) (m : More s s') (f : Fresh s) : WdAt W ds s' lv dv := ⟨h.l.more m f, h.d.more m f, h.dd, h.ok, h.n20, h.dn⟩
theorem WdAt.stp {ks : List Nat} {W : Wd} {ds : List Bool} {s s' : St} {lv dv : Value} (h : WdAt W ds s lv dv) (m : StpK ks s s') (h1 : 5 ∉ ks) (h2 : 1 ∉ ks) : WdAt W ds s' lv dv := ⟨h.l.stp m h1, h.d.stp m h2, h.dd, h.ok, h.n20, h.dn⟩
theorem WdAt.frz {W : Wd} {ds : List Bool} {s : St} {lv dv : Value} (h : WdAt W ds s lv dv) : WdAt W ds s.frz lv dv := ⟨h.l.frz, h.d.frz, h.dd, h.ok, h.n20, h.dn⟩
theorem rtail_r (h : Int) (s : St) : leapfrogref12x_Tail.r (.int .i64 h) s = some (.agg ⟨(tailR h).cs⟩) := by
  simp only [leapfrogref12x_Tail.r, leapfrogref12x_Tail.t, sy, reduceIte, Nat.reduceAdd, Nat.reduceLeDiff, Nat.reduceLT, Nat.reduceEqDiff, Int.reduceEq, Int.reduceLT, Int.reduceLE, Int.reduceNe, ly, tailR]
theorem cs_get {l : List Rf} {j : Nat} {x : Rf} (h : l[j]? = some x) : (l.map Rf.cs)[j]? = some x.cs := by rw [List.getElem?_map, h]; rfl
theorem list_r {W : Wd} {ds : List Bool} {lv dv : Value} {wl wb : Int} {s : St} (h : WdAt W ds s lv dv) (f : Fresh s) (hwb : 0 ≤ wb) :
    ∃ v' s', leapfroglaw12x_World_list.v (WV W lv dv) (VI wl wb) s = some (v', s') ∧ IsR s' 5 v' ((lst W wl wb).map Rf.cs) ∧ More s s' ∧ Fresh s' := by
  have hd := rhead_r W.h s
  have m1 : More s (s.new (.row 5 [(headR W.h).cs] false)) := .new
  have u1 : Ful s.n (s.new (.row 5 [(headR W.h).cs] false)) 5 (.slice (some ⟨s.n, 0, some 0⟩) 1 2) [(headR W.h).cs] := ful_one (Nat.le_refl _)
  have f1 := m1.fresh f
  generalize hs1 : s.new (.row 5 [(headR W.h).cs] false) = s1 at *
  have main : ∃ v' s', iter (leapfroglaw12x_World_list.l3 std) BIG [.slice (some ⟨s.n, 0, some 0⟩) 1 2, .int .i64 ((0 : Nat) : Int), WV W lv dv, VI wl wb] s1 = some ((0, [v', WV W lv dv], s') : Cut) ∧ Ful s.n s' 5 v' ((headR W.h :: W.L.filter (inL wl wb)).map Rf.cs) ∧ More s s' ∧ Fresh s' := by
    refine iter_rel (fun d xs s' => ∃ v i, Ful s.n s' 5 v ((headR W.h :: (W.L.take i).filter (inL wl wb)).map Rf.cs) ∧ More s s' ∧ Fresh s' ∧ i + d = W.L.length ∧ xs = [v, .int .i64 (i : Int), WV W lv dv, VI wl wb])
      (fun y : Option Cut => ∃ v' s', y = some ((0, [v', WV W lv dv], s') : Cut) ∧ Ful s.n s' 5 v' ((headR W.h :: W.L.filter (inL wl wb)).map Rf.cs) ∧ More s s' ∧ Fresh s') ?_ BIG W.L.length _ s1 (by have := h.n20; unfold BIG; omega) ⟨_, 0, by simpa using u1, m1, f1, by omega, rfl⟩
    rintro d xs s2 rec ⟨v, i, hv, hm, hf, hi, rfl⟩ ih
    have h2 := h.more hm f
    have hlen := h2.l.len
    rw [List.length_map] at hlen
    have n20 := h.n20
    cases d with
    | zero =>
      have e1 : ¬ ((i : Int) < W.L.length) := by omega
      refine ⟨v, s2, by simp only [leapfroglaw12x_World_list.l3, sy, reduceIte, Nat.reduceAdd, Nat.reduceLeDiff, Nat.reduceLT, Nat.reduceEqDiff, Int.reduceEq, Int.reduceLT, Int.reduceLE, Int.reduceNe, ly, hlen, e1], ?_, hm, hf⟩
      rw [List.take_of_length_le (by omega)] at hv
      exact hv
    | succ d =>
      have e1 : (i : Int) < W.L.length := by omega
      obtain ⟨x, hx⟩ := get_some (l := W.L) (j := i) (by omega)
      have e5 : IntKind.i64.wrap ((i : Int) + 1) = ((i + 1 : Nat) : Int) := by rw [wrap64 (by omega) (by omega)]; omega
      have htk : W.L.take (i + 1) = W.L.take i ++ [x] := by rw [List.take_add_one, hx]; rfl
      obtain ⟨b2, all2, ro2, c1, c2, c3⟩ := h2.l.at (cs_get hx)
      have bg := rbegins_i x.ln x.bt wl wb (h.ok.vec x (List.mem_of_getElem? hx)).2.1 hwb s2 hf
      cases hb : inL wl wb x with
      | false =>
        have hb' := hb
        unfold inL at hb'
        rw [hb'] at bg
        have fin : leapfroglaw12x_World_list.l3 std rec [v, .int .i64 (i : Int), WV W lv dv, VI wl wb] s2 = rec [v, .int .i64 ((i + 1 : Nat) : Int), WV W lv dv, VI wl wb] s2 := by
          simp only [leapfroglaw12x_World_list.l3, sy, reduceIte, Nat.reduceAdd, Nat.reduceLeDiff, Nat.reduceLT, Nat.reduceEqDiff, Int.reduceEq, Int.reduceLT, Int.reduceLE, Int.reduceNe, ly, hlen, e1, c1, lda_row c2, c3, bg, e5]
        rw [fin]
        exact ih d _ _ (by omega) ⟨v, i + 1, by rw [htk, List.filter_append]; simpa [hb] using hv, hm, hf, by omega, rfl⟩
      | true =>
        have hb' := hb
        unfold inL at hb'
        rw [hb'] at bg
        have hl : ((headR W.h :: (W.L.take i).filter (inL wl wb)).map Rf.cs).length ≤ 21 := by
          rw [List.length_map, List.length_cons]
          have := List.length_filter_le (inL wl wb) (W.L.take i)
          rw [List.length_take] at this
          omega
        obtain ⟨v2, s3, g1, g2, g3, g4, _⟩ := push hf hv hm (by_ := 40) x.cs (by omega) (by omega)
        have fin : leapfroglaw12x_World_list.l3 std rec [v, .int .i64 (i : Int), WV W lv dv, VI wl wb] s2 = rec [v2, .int .i64 ((i + 1 : Nat) : Int), WV W lv dv, VI wl wb] s3 := by
          simp only [leapfroglaw12x_World_list.l3, sy, reduceIte, Nat.reduceAdd, Nat.reduceLeDiff, Nat.reduceLT, Nat.reduceEqDiff, Int.reduceEq, Int.reduceLT, Int.reduceLE, Int.reduceNe, ly, hlen, e1, c1, lda_row c2, c3, bg, als_eq, Nat.reduceMul, g1, e5]
        rw [fin]
        refine ih d _ _ (by omega) ⟨v2, i + 1, ?_, g2, g4, by omega, rfl⟩
        rw [htk, List.filter_append, show [x].filter (inL wl wb) = [x] by simp [hb], ← List.cons_append, List.map_append]
        exact g3
  obtain ⟨v', s', e, q1, q2, q3⟩ := main
  rw [show ((0 : Nat) : Int) = 0 from rfl] at e
  have hl : ((headR W.h :: W.L.filter (inL wl wb)).map Rf.cs).length ≤ 21 := by
    rw [List.length_map, List.length_cons]
    have := List.length_filter_le (inL wl wb) W.L
    have := h.n20
    omega
  obtain ⟨v2, s3, g1, g2, g3, g4, _⟩ := push q3 q1 q2 (by_ := 40) (tailR W.h).cs (by omega) (by omega)
  have ht := rtail_r W.h s'
  refine ⟨v2, s3, ?_, ?_, g2, g4⟩
  · rw [← hs1] at e
    simp only [leapfroglaw12x_World_list.v, leapfroglaw12x_World_list.t, sy, reduceIte, Nat.reduceAdd, Nat.reduceLeDiff, Nat.reduceLT, Nat.reduceEqDiff, Int.reduceEq, Int.reduceLT, Int.reduceLE, Int.reduceNe, ly, hd, e, ht, als_eq, Nat.reduceMul, g1]
  · have e2 : (lst W wl wb).map Rf.cs = (headR W.h :: W.L.filter (inL wl wb)).map Rf.cs ++ [(tailR W.h).cs] := by unfold lst; simp
    rw [e2]
    exact g3.isR
theorem ds_get {ds : List Bool} {j : Nat} {b : Bool} (h : ds[j]? = some b) : (ds.map fun b => [Value.bool b])[j]? = some [.bool b] := by rw [List.getElem?_map, h]; rfl
theorem gone_r {W : Wd} {ds : List Bool} {lv dv : Value} {s : St} (h : WdAt W ds s lv dv) (id : Int) : leapfroglaw12x_World_gone.r (WV W lv dv) (.int .i64 id) s = some (.bool (W.dead id)) := by
  have hlen := h.d.len
  rw [List.length_map] at hlen
  have hn := h.dn
  have n20 := h.n20
  have ew : IntKind.i64.wrap ((ds.length : Int) + 2) = (ds.length : Int) + 2 := wrap64 (by omega) (by omega)
  rw [h.dd]
  unfold deadOf
  rcases Classical.propComplete (2 ≤ id) with k1 | k1
  · have k1' := of_eq_true k1
    rcases Classical.propComplete (id < (ds.length : Int) + 2) with k2 | k2
    · have k2' := of_eq_true k2
      obtain ⟨b, hb⟩ := get_some (l := ds) (j := (id - 2).toNat) (by omega)
      obtain ⟨b2, all2, ro2, c1, c2, c3⟩ := h.d.at (ds_get hb)
      have ew2 : IntKind.i64.wrap (id - 2) = (((id - 2).toNat : Nat) : Int) := by rw [wrap64 (by omega) (by omega)]; omega
      have hd : ds.getD (id - 2).toNat false = b := by rw [List.getD_eq_getElem?_getD, hb]; rfl
      rw [hd]
      cases b <;> simp only [leapfroglaw12x_World_gone.r, leapfroglaw12x_World_gone.t, sy, reduceIte, Nat.reduceAdd, Nat.reduceLeDiff, Nat.reduceLT, Nat.reduceEqDiff, Int.reduceEq, Int.reduceLT, Int.reduceLE, Int.reduceNe, ly, k1, hlen, ew, k2, ew2, c1, ldc_row c2, c3]
    · have k2' := of_eq_false k2
      have hd : ds.getD (id - 2).toNat false = false := by rw [List.getD_eq_getElem?_getD, List.getElem?_eq_none (by omega)]; rfl
      rw [hd]
      simp only [leapfroglaw12x_World_gone.r, leapfroglaw12x_World_gone.t, sy, reduceIte, Nat.reduceAdd, Nat.reduceLeDiff, Nat.reduceLT, Nat.reduceEqDiff, Int.reduceEq, Int.reduceLT, Int.reduceLE, Int.reduceNe, ly, k1, hlen, ew, k2]
  · simp only [leapfroglaw12x_World_gone.r, leapfroglaw12x_World_gone.t, sy, reduceIte, Nat.reduceAdd, Nat.reduceLeDiff, Nat.reduceLT, Nat.reduceEqDiff, Int.reduceEq, Int.reduceLT, Int.reduceLE, Int.reduceNe, ly, k1]
theorem ans_loop {W : Wd} {ds : List Bool} {lv dv v : Value} {wl wb : Int} {to : Rf} {s : St} (h : WdAt W ds s lv dv) (hv : IsR s 5 v ((lst W wl wb).map Rf.cs)) :
    iter (leapfroglaw12x_World_Answer.l3 std) BIG [v, .int .i64 ((0 : Nat) : Int), WV W lv dv, .agg ⟨to.cs⟩, .agg ⟨(⟨0, false, zR, zR, .slice none 0 0⟩ : Ans).cs⟩] s =
      (match (lst W wl wb).findIdx? fun r => decide (r.id = to.id) with
        | none => some ((0, [.agg ⟨(⟨0, false, zR, zR, .slice none 0 0⟩ : Ans).cs⟩], s) : Cut)
        | some _ => some ((1, [.agg ⟨(ansW W to.id wl wb).cs⟩], s) : Cut)) := by
  have hll := lst_len W wl wb
  have n20 := h.n20
  have hlen := hv.len
  rw [List.length_map] at hlen
  refine iter_rel (fun d xs s' => ∃ i : Nat, (∀ r ∈ (lst W wl wb).take i, r.id ≠ to.id) ∧ i + d = (lst W wl wb).length ∧ s' = s ∧ xs = [v, .int .i64 (i : Int), WV W lv dv, .agg ⟨to.cs⟩, .agg ⟨(⟨0, false, zR, zR, .slice none 0 0⟩ : Ans).cs⟩])
    (fun y : Option Cut => y = (match (lst W wl wb).findIdx? fun r => decide (r.id = to.id) with
        | none => some ((0, [.agg ⟨(⟨0, false, zR, zR, .slice none 0 0⟩ : Ans).cs⟩], s) : Cut)
        | some _ => some ((1, [.agg ⟨(ansW W to.id wl wb).cs⟩], s) : Cut))) ?_ BIG (lst W wl wb).length _ s (by unfold BIG; omega) ⟨0, by simp, by omega, rfl, rfl⟩
  rintro d xs s2 rec ⟨i, hno, hi, rfl, rfl⟩ ih
  cases d with
  | zero =>
    have e1 : ¬ ((i : Int) < (lst W wl wb).length) := by omega
    have hf : (lst W wl wb).findIdx? (fun r => decide (r.id = to.id)) = none := by
      rw [List.findIdx?_eq_none_iff]
      intro r hr
      rw [List.take_of_length_le (by omega)] at hno
      simpa using hno r hr
    rw [hf]
    simp only [leapfroglaw12x_World_Answer.l3, sy, reduceIte, Nat.reduceAdd, Nat.reduceLeDiff, Nat.reduceLT, Nat.reduceEqDiff, Int.reduceEq, Int.reduceLT, Int.reduceLE, Int.reduceNe, ly, hlen, e1]
  | succ d =>
    have e1 : (i : Int) < (lst W wl wb).length := by omega
    obtain ⟨x, hx⟩ := get_some (l := lst W wl wb) (j := i) (by omega)
    have e5 : IntKind.i64.wrap ((i : Int) + 1) = ((i + 1 : Nat) : Int) := by rw [wrap64 (by omega) (by omega)]; omega
    have htk : (lst W wl wb).take (i + 1) = (lst W wl wb).take i ++ [x] := by rw [List.take_add_one, hx]; rfl
    obtain ⟨b2, all2, ro2, c1, c2, c3⟩ := hv.at (cs_get hx)
    rcases Classical.propComplete (x.id = to.id) with k1 | k1
    · have hf : (lst W wl wb).findIdx? (fun r => decide (r.id = to.id)) = some i := by
        have hsp : lst W wl wb = (lst W wl wb).take i ++ x :: (lst W wl wb).drop (i + 1) := by
          rw [← drop_get hx, List.take_append_drop]
        have := findIdx_split (lst_inj h.ok wl wb) hsp
        rw [of_eq_true k1, List.length_take] at this
        rw [this]; congr 1; omega
      have hg := gone_r h to.id
      have hans : ansW W to.id wl wb = ⟨if W.dead to.id = true then 3 else 1, false, if 0 < i then (lst W wl wb).getD (i - 1) zR else zR, (lst W wl wb).getD (i + 1) zR, .slice none 0 0⟩ := by
        unfold ansW; rw [hf]
      rw [hf]
      simp only []
      rw [hans]
      -- the left side
      obtain ⟨lx, hlx⟩ : ∃ lx, lx = (if 0 < i then (lst W wl wb).getD (i - 1) zR else zR) := ⟨_, rfl⟩
      obtain ⟨rx, hrx⟩ : ∃ rx, rx = (lst W wl wb).getD (i + 1) zR := ⟨_, rfl⟩
      rw [← hlx, ← hrx]
      have eg : (((i : Int) > 0) = (0 < i)) := by apply propext; omega
      by_cases hi0 : 0 < i
      · have k0 : ((0 : Int) < (i : Int)) = True := eq_true (by omega)
        obtain ⟨y, hy⟩ := get_some (l := lst W wl wb) (j := i - 1) (by omega)
        have e6 : IntKind.i64.wrap ((i : Int) - 1) = ((i - 1 : Nat) : Int) := by rw [wrap64 (by omega) (by omega)]; omega
        obtain ⟨b3, all3, ro3, x1, x2, x3⟩ := hv.at (cs_get hy)
        rw [if_pos hi0, List.getD_eq_getElem?_getD, hy] at hlx
        simp only [Option.getD_some] at hlx
        subst hlx
        by_cases hi1 : i + 1 < (lst W wl wb).length
        · have k2 : (((i + 1 : Nat) : Int) < (lst W wl wb).length) = True := eq_true (by omega)
          obtain ⟨z, hz⟩ := get_some (l := lst W wl wb) (j := i + 1) hi1
          obtain ⟨b4, all4, ro4, z1, z2, z3⟩ := hv.at (cs_get hz)
          rw [List.getD_eq_getElem?_getD, hz] at hrx
          simp only [Option.getD_some] at hrx
          subst hrx
          cases hdd : W.dead to.id <;> rw [hdd] at hg <;> simp only [leapfroglaw12x_World_Answer.l3, leapfroglaw12x_World_Answer.l3.p1, sy, reduceIte, Nat.reduceAdd, Nat.reduceLeDiff, Nat.reduceLT, Nat.reduceEqDiff, Int.reduceEq, Int.reduceLT, Int.reduceLE, Int.reduceNe, ly, hlen, e1, c1, ldc_row c2, c3, k1, hg, k0, e6, x1, lda_row x2, x3, e5, k2, z1, lda_row z2, z3]
        · have k2 : (((i + 1 : Nat) : Int) < (lst W wl wb).length) = False := eq_false (by omega)
          rw [List.getD_eq_getElem?_getD, List.getElem?_eq_none (by omega)] at hrx
          simp only [Option.getD_none] at hrx
          subst hrx
          cases hdd : W.dead to.id <;> rw [hdd] at hg <;> simp only [leapfroglaw12x_World_Answer.l3, leapfroglaw12x_World_Answer.l3.p1, sy, reduceIte, Nat.reduceAdd, Nat.reduceLeDiff, Nat.reduceLT, Nat.reduceEqDiff, Int.reduceEq, Int.reduceLT, Int.reduceLE, Int.reduceNe, ly, hlen, e1, c1, ldc_row c2, c3, k1, hg, k0, e6, x1, lda_row x2, x3, e5, k2]
      · have k0 : ((0 : Int) < (i : Int)) = False := eq_false (by omega)
        rw [if_neg hi0] at hlx
        subst hlx
        by_cases hi1 : i + 1 < (lst W wl wb).length
        · have k2 : (((i + 1 : Nat) : Int) < (lst W wl wb).length) = True := eq_true (by omega)
          obtain ⟨z, hz⟩ := get_some (l := lst W wl wb) (j := i + 1) hi1
          obtain ⟨b4, all4, ro4, z1, z2, z3⟩ := hv.at (cs_get hz)
          rw [List.getD_eq_getElem?_getD, hz] at hrx
          simp only [Option.getD_some] at hrx
          subst hrx
          cases hdd : W.dead to.id <;> rw [hdd] at hg <;> simp only [leapfroglaw12x_World_Answer.l3, leapfroglaw12x_World_Answer.l3.p1, sy, reduceIte, Nat.reduceAdd, Nat.reduceLeDiff, Nat.reduceLT, Nat.reduceEqDiff, Int.reduceEq, Int.reduceLT, Int.reduceLE, Int.reduceNe, ly, hlen, e1, c1, ldc_row c2, c3, k1, hg, k0, e5, k2, z1, lda_row z2, z3]
        · have k2 : (((i + 1 : Nat) : Int) < (lst W wl wb).length) = False := eq_false (by omega)
          rw [List.getD_eq_getElem?_getD, List.getElem?_eq_none (by omega)] at hrx
          simp only [Option.getD_none] at hrx
          subst hrx
          cases hdd : W.dead to.id <;> rw [hdd] at hg <;> simp only [leapfroglaw12x_World_Answer.l3, leapfroglaw12x_World_Answer.l3.p1, sy, reduceIte, Nat.reduceAdd, Nat.reduceLeDiff, Nat.reduceLT, Nat.reduceEqDiff, Int.reduceEq, Int.reduceLT, Int.reduceLE, Int.reduceNe, ly, hlen, e1, c1, ldc_row c2, c3, k1, hg, k0, e5, k2]
    · have fin : leapfroglaw12x_World_Answer.l3 std rec [v, .int .i64 (i : Int), WV W lv dv, .agg ⟨to.cs⟩, .agg ⟨(⟨0, false, zR, zR, .slice none 0 0⟩ : Ans).cs⟩] s2 = rec [v, .int .i64 ((i + 1 : Nat) : Int), WV W lv dv, .agg ⟨to.cs⟩, .agg ⟨(⟨0, false, zR, zR, .slice none 0 0⟩ : Ans).cs⟩] s2 := by
        simp only [leapfroglaw12x_World_Answer.l3, sy, reduceIte, Nat.reduceAdd, Nat.reduceLeDiff, Nat.reduceLT, Nat.reduceEqDiff, Int.reduceEq, Int.reduceLT, Int.reduceLE, Int.reduceNe, ly, hlen, e1, c1, ldc_row c2, c3, k1, e5]
      rw [fin]
      refine ih d _ _ (by omega) ⟨i + 1, ?_, by omega, rfl, rfl⟩
      intro r hr
      rw [htk, List.mem_append, List.mem_singleton] at hr
      rcases hr with hr | rfl
      · exact hno r hr
      · exact of_eq_false k1
theorem answer_r {W : Wd} {ds : List Bool} {lv dv : Value} {wl wb : Int} {to : Rf} {s : St} (h : WdAt W ds s lv dv) (f : Fresh s) (hwb : 0 ≤ wb) :
    ∃ s', leapfroglaw12x_World_Answer.v (WV W lv dv) (.agg ⟨to.cs⟩) (VI wl wb) s = some (.agg ⟨(ansW W to.id wl wb).cs⟩, s') ∧ More s s' ∧ Fresh s' := by
  obtain ⟨v, s1, e1, h1, m1, f1⟩ := list_r (wl := wl) h f hwb
  have e2 := ans_loop (to := to) (h.more m1 f) h1
  rw [show ((0 : Nat) : Int) = 0 from rfl] at e2
  cases hf : (lst W wl wb).findIdx? fun r => decide (r.id = to.id) with
  | none =>
    rw [hf] at e2
    have ha : ansW W to.id wl wb = ⟨2, false, zR, zR, .slice none 0 0⟩ := by unfold ansW; rw [hf]
    rw [ha]
    exact ⟨s1, by simp only [leapfroglaw12x_World_Answer.v, leapfroglaw12x_World_Answer.t, sy, reduceIte, Nat.reduceAdd, Nat.reduceLeDiff, Nat.reduceLT, Nat.reduceEqDiff, Int.reduceEq, Int.reduceLT, Int.reduceLE, Int.reduceNe, ly, e1, e2], m1, f1⟩
  | some i =>
    rw [hf] at e2
    generalize ansW W to.id wl wb = aw at *
    exact ⟨s1, by simp only [leapfroglaw12x_World_Answer.v, leapfroglaw12x_World_Answer.t, sy, reduceIte, Nat.reduceAdd, Nat.reduceLeDiff, Nat.reduceLT, Nat.reduceEqDiff, Int.reduceEq, Int.reduceLT, Int.reduceLE, Int.reduceNe, ly, e1, e2, Nat.one_ne_zero], m1, f1⟩
abbrev UC (n : Int) : List Value := [.int .u64 n]
abbrev BC (b : Bool) : List Value := [.bool b]
theorem uc_get {l : List Int} {j : Nat} {x : Int} (h : l[j]? = some x) : (l.map UC)[j]? = some (UC x) := by rw [List.getElem?_map, h]; rfl
theorem bc_get {l : List Bool} {j : Nat} {x : Bool} (h : l[j]? = some x) : (l.map BC)[j]? = some (BC x) := by rw [List.getElem?_map, h]; rfl
def mkRf (h : Nat) (bs S : List Int) (i : Nat) : Rf := ⟨(i : Int) + 2, 2, S.getD i 0, h, if i < bs.length then (bs.getD i 0).tmod ((2 ^ h : Nat) : Int) else 0⟩
def mkS (ks : List Int) : List Int := srtN (ks.take 20)
def mkD (ks : List Int) (dd : List Bool) : List Bool := (List.range (mkS ks).length).map fun i => dd.getD i false
def mkW (h : Nat) (ks bs : List Int) (dd : List Bool) : Wd := ⟨h, (List.range (mkS ks).length).map (mkRf h bs (mkS ks)), deadOf (mkD ks dd)⟩
theorem mkS_len (ks : List Int) : (mkS ks).length ≤ 20 := by
  have := (srtN_spec (ks.take 20)).2.2
  rw [List.length_take] at this
  unfold mkS; omega
theorem mkW_ok {h : Nat} {ks bs : List Int} {dd : List Bool} (h32 : h ≤ 32) (hb : ∀ b ∈ bs, 0 ≤ b) : OkW (mkW h ks bs dd) := by
  have hp : ((2 ^ h : Nat) : Int) > 0 := by have := Nat.two_pow_pos h; omega
  have mem : ∀ r ∈ (mkW h ks bs dd).L, ∃ i, i < (mkS ks).length ∧ r = mkRf h bs (mkS ks) i := by
    intro r hr
    simp only [mkW, List.mem_map, List.mem_range] at hr
    obtain ⟨i, hi, rfl⟩ := hr
    exact ⟨i, hi, rfl⟩
  refine ⟨h32, fun r hr => ?_, fun r hr => ?_, fun r hr => ?_, ?_, ?_, ?_, ?_⟩
  · obtain ⟨i, hi, rfl⟩ := mem r hr; rfl
  · obtain ⟨i, hi, rfl⟩ := mem r hr
    refine ⟨rfl, ?_, ?_⟩
    · simp only [mkRf]
      split
      · rename_i hl
        obtain ⟨b, hbb⟩ := get_some hl
        rw [List.getD_eq_getElem?_getD, hbb]
        exact Int.tmod_nonneg _ (hb b (List.mem_of_getElem? hbb))
      · exact Int.le_refl _
    · simp only [mkRf, mkW]
      split
      · exact Int.tmod_lt_of_pos _ hp
      · omega
  · obtain ⟨i, hi, rfl⟩ := mem r hr; simp only [mkRf]; omega
  · simp only [mkW]
    rw [List.pairwise_map]
    refine List.Pairwise.imp ?_ (List.pairwise_lt_range)
    intro a b hab
    simp only [mkRf]; omega
  · simp only [mkW]
    rw [List.pairwise_map]
    have hs := (srtN_spec (ks.take 20)).1
    refine List.Pairwise.imp_of_mem ?_ (List.pairwise_lt_range)
    intro a b ha hb hab
    rw [List.mem_range] at ha hb
    simp only [mkRf]
    rw [List.getD_eq_getElem?_getD, List.getD_eq_getElem?_getD, List.getElem?_eq_getElem ha, List.getElem?_eq_getElem hb]
    exact List.pairwise_iff_getElem.1 hs a b ha hb hab
  · simp [mkW, deadOf]
  · simp [mkW, deadOf]
theorem at_r (n : Int) (s : St) : leapfrogref02x_At.r (.int .u64 n) s = some (KV 2 n) := by
  simp only [leapfrogref02x_At.r, leapfrogref02x_At.t, sy, reduceIte, Nat.reduceAdd, Nat.reduceLeDiff, Nat.reduceLT, Nat.reduceEqDiff, Int.reduceEq, Int.reduceLT, Int.reduceLE, Int.reduceNe, ly]
theorem keys_loop {kv bv dv C1 C4 : Value} {h : Int} {ks : List Int} {z1 z4 : List Value} {s : St} (hk : IsR s 1 kv (ks.map UC)) (f : Fresh s) :
    ∃ lv s', iter (leapfroglaw12x_Make.l4 std) BIG [.int .i64 h, kv, bv, dv, .slice none 0 0, .int .i64 ((0 : Nat) : Int), .agg ⟨z1⟩, .agg ⟨z4⟩] s = some ((0, [.int .i64 h, bv, dv, lv, .agg ⟨z1⟩, .agg ⟨z4⟩], s') : Cut) ∧ Ful s.n s' 2 lv ((ks.take 20).map KC) ∧ More s s' ∧ Fresh s' := by
  refine iter_rel (fun d xs s' => ∃ lv i, Ful s.n s' 2 lv ((ks.take i).map KC) ∧ More s s' ∧ Fresh s' ∧ i + d = 20 ∧ (i ≤ ks.length) ∧ xs = [.int .i64 h, kv, bv, dv, lv, .int .i64 (i : Int), .agg ⟨z1⟩, .agg ⟨z4⟩])
    (fun y : Option Cut => ∃ lv s', y = some ((0, [.int .i64 h, bv, dv, lv, .agg ⟨z1⟩, .agg ⟨z4⟩], s') : Cut) ∧ Ful s.n s' 2 lv ((ks.take 20).map KC) ∧ More s s' ∧ Fresh s') ?_ BIG 20 _ s (by unfold BIG; omega) ⟨_, 0, .nil, .refl _, f, by omega, Nat.zero_le _, rfl⟩
  rintro d xs s2 rec ⟨lv, i, hl, hm, hf, hi, hil, rfl⟩ ih
  have hk2 := hk.more hm f
  have hlen := hk2.len
  rw [List.length_map] at hlen
  by_cases hlt : i < ks.length
  · have e1 : (i : Int) < ks.length := by omega
    cases d with
    | zero =>
      have e2 : ¬ ((i : Int) < 20) := by omega
      have : i = 20 := by omega
      subst this
      exact ⟨lv, s2, by simp only [leapfroglaw12x_Make.l4, sy, reduceIte, Nat.reduceAdd, Nat.reduceLeDiff, Nat.reduceLT, Nat.reduceEqDiff, Int.reduceEq, Int.reduceLT, Int.reduceLE, Int.reduceNe, ly, hlen, e1, e2], hl, hm, hf⟩
    | succ d =>
      have e2 : (i : Int) < 20 := by omega
      obtain ⟨x, hx⟩ := get_some hlt
      have e5 : IntKind.i64.wrap ((i : Int) + 1) = ((i + 1 : Nat) : Int) := by rw [wrap64 (by omega) (by omega)]; omega
      obtain ⟨b2, all2, ro2, c1, c2, c3⟩ := hk2.at (uc_get hx)
      have ha := at_r x s2
      have hll : ((ks.take i).map KC).length ≤ 20 := by rw [List.length_map, List.length_take]; omega
      obtain ⟨v2, s3, g1, g2, g3, g4, _⟩ := push hf hl hm (by_ := 16) (KC x) (by omega) (by omega)
      have fin : leapfroglaw12x_Make.l4 std rec [.int .i64 h, kv, bv, dv, lv, .int .i64 (i : Int), .agg ⟨z1⟩, .agg ⟨z4⟩] s2 = rec [.int .i64 h, kv, bv, dv, v2, .int .i64 ((i + 1 : Nat) : Int), .agg ⟨z1⟩, .agg ⟨z4⟩] s3 := by
        simp only [leapfroglaw12x_Make.l4, sy, reduceIte, Nat.reduceAdd, Nat.reduceLeDiff, Nat.reduceLT, Nat.reduceEqDiff, Int.reduceEq, Int.reduceLT, Int.reduceLE, Int.reduceNe, ly, hlen, e1, e2, c1, ldc_row c2, c3, ha, als_eq, Nat.reduceMul, g1, e5]
      rw [fin]
      refine ih d _ _ (by omega) ⟨v2, i + 1, ?_, g2, g4, by omega, by omega, rfl⟩
      rw [List.take_add_one, hx, List.map_append]
      exact g3
  · have e1 : ¬ ((i : Int) < ks.length) := by omega
    refine ⟨lv, s2, by simp only [leapfroglaw12x_Make.l4, sy, reduceIte, Nat.reduceAdd, Nat.reduceLeDiff, Nat.reduceLT, Nat.reduceEqDiff, Int.reduceEq, Int.reduceLT, Int.reduceLE, Int.reduceNe, ly, hlen, e1], ?_, hm, hf⟩
    rw [List.take_of_length_le (by omega)] at hl ⊢
    exact hl
theorem make_loop {sv bv dv : Value} {h : Nat} {ks bs : List Int} {dd : List Bool} {z1 : List Value} {s0 s : St} (h32 : h ≤ 32) (hs : IsR s 2 sv ((mkS ks).map KC)) (hb : IsR s0 1 bv (bs.map UC)) (hd : IsR s0 1 dv (dd.map BC)) (f0 : Fresh s0) (m0' : More s0 s) (f : Fresh s) :
    ∃ lv dv' s', iter (leapfroglaw12x_Make.l9 std) BIG [.int .i64 (h : Int), bv, dv, sv, .int .i64 ((0 : Nat) : Int), .agg ⟨z1⟩, .agg ⟨[.int .i64 (h : Int), .slice none 0 0, .slice none 0 0]⟩] s = some ((0, [.agg ⟨z1⟩, .agg ⟨[.int .i64 (h : Int), lv, dv']⟩], s') : Cut) ∧
      IsR s' 5 lv ((mkW h ks bs dd).L.map Rf.cs) ∧ IsR s' 1 dv' ((mkD ks dd).map BC) ∧ More s0 s' ∧ Fresh s' := by
  have hS := mkS_len ks
  refine iter_rel (fun d xs s' => ∃ lv dv' i, Ful s.n s' 5 lv (((List.range i).map (mkRf h bs (mkS ks))).map Rf.cs) ∧ Ful s.n s' 1 dv' (((List.range i).map fun i => dd.getD i false).map BC) ∧ More s s' ∧ Fresh s' ∧ i + d = (mkS ks).length ∧ xs = [.int .i64 (h : Int), bv, dv, sv, .int .i64 (i : Int), .agg ⟨z1⟩, .agg ⟨[.int .i64 (h : Int), lv, dv']⟩])
    (fun y : Option Cut => ∃ lv dv' s', y = some ((0, [.agg ⟨z1⟩, .agg ⟨[.int .i64 (h : Int), lv, dv']⟩], s') : Cut) ∧ IsR s' 5 lv ((mkW h ks bs dd).L.map Rf.cs) ∧ IsR s' 1 dv' ((mkD ks dd).map BC) ∧ More s0 s' ∧ Fresh s') ?_ BIG (mkS ks).length _ s (by unfold BIG; omega) ⟨_, _, 0, .nil, .nil, .refl _, f, by omega, rfl⟩
  rintro d xs s2 rec ⟨lv, dv', i, hl, hd', hm, hf, hi, rfl⟩ ih
  have hsv := hs.more hm f
  have hlen := hsv.len
  rw [List.length_map] at hlen
  cases d with
  | zero =>
    have e1 : ¬ ((i : Int) < (mkS ks).length) := by omega
    have : i = (mkS ks).length := by omega
    subst this
    exact ⟨lv, dv', s2, by simp only [leapfroglaw12x_Make.l9, sy, reduceIte, Nat.reduceAdd, Nat.reduceLeDiff, Nat.reduceLT, Nat.reduceEqDiff, Int.reduceEq, Int.reduceLT, Int.reduceLE, Int.reduceNe, ly, hlen, e1], hl.isR, hd'.isR, m0'.trans hm, hf⟩
  | succ d =>
    have e1 : (i : Int) < (mkS ks).length := by omega
    obtain ⟨x, hx⟩ := get_some (l := mkS ks) (j := i) (by omega)
    have e5 : IntKind.i64.wrap ((i : Int) + 1) = ((i + 1 : Nat) : Int) := by rw [wrap64 (by omega) (by omega)]; omega
    have e6 : IntKind.i64.wrap ((i : Int) + 2) = (i : Int) + 2 := wrap64 (by omega) (by omega)
    have hxD : (mkS ks).getD i 0 = x := by rw [List.getD_eq_getElem?_getD, hx]; rfl
    obtain ⟨b2, all2, ro2, c1, c2, c3⟩ := hsv.at (kc_get hx)
    have hb2 := hb.more (m0'.trans hm) f0
    have hblen := hb2.len
    rw [List.length_map] at hblen
    have ec : IntKind.u64.wrap (h : Int) = (h : Int) := wrapu64 (by omega) (by omega)
    have hpw : 2 ^ h < 2 ^ 64 := Nat.pow_lt_pow_right (by omega) (by omega)
    have esh : bin .shl (.int .u64 1) (.int .u64 (h : Int)) = some (.int .u64 ((2 ^ h : Nat) : Int)) := by
      have := shl_u64 (a := 1) (k := h) (k' := .u64) (by omega) (by rw [Nat.one_mul]; exact hpw)
      rw [Nat.one_mul] at this
      exact this
    have hpz : ((2 ^ h : Nat) : Int) ≠ 0 := by have := Nat.two_pow_pos h; omega
    obtain ⟨bt, hbt⟩ : ∃ bt, bt = (mkRf h bs (mkS ks) i).bt := ⟨_, rfl⟩
    -- the first push
    have hll : (((List.range i).map (mkRf h bs (mkS ks))).map Rf.cs).length ≤ 20 := by rw [List.length_map, List.length_map, List.length_range]; omega
    have hdl : (((List.range i).map fun i => dd.getD i false).map BC).length ≤ 20 := by rw [List.length_map, List.length_map, List.length_range]; omega
    have hcs : (mkRf h bs (mkS ks) i).cs = [.int .i64 ((i : Int) + 2), .int .i64 2, .int .u64 x, .int .i64 (h : Int), .int .u64 bt] := by rw [hbt, ← hxD]; rfl
    obtain ⟨v2, s3, g1, g2, g3, g4, g5⟩ := push hf hl hm (by_ := 40) (mkRf h bs (mkS ks) i).cs (by omega) (by omega)
    rw [hcs] at g1
    have hsv3 := hs.more g2 f
    obtain ⟨b3, all3, ro3, x1, x2, x3⟩ := hsv3.at (kc_get hx)
    have hbb : b3 = b2 := by
      have y1 := hsv.blk (kc_get hx) c1
      have y2 := hsv3.blk (kc_get hx) x1
      rw [← y1] at y2
      simpa using y2
    subst hbb
    have hd2 := hd.more (m0'.trans g2) f0
    have hdlen := hd2.len
    rw [List.length_map] at hdlen
    have hd'3 := hd'.stp g5 (by simp)
    obtain ⟨w2, s4, y1, y2, y3, y4, y5⟩ := push g4 hd'3 g2 (by_ := 1) (BC (dd.getD i false)) (by omega) (by omega)
    have hd4 := hd.more (m0'.trans y2) f0
    have hdlen4 := hd4.len
    rw [List.length_map] at hdlen4
    have goal : leapfroglaw12x_Make.l9 std rec [.int .i64 (h : Int), bv, dv, sv, .int .i64 (i : Int), .agg ⟨z1⟩, .agg ⟨[.int .i64 (h : Int), lv, dv']⟩] s2 = rec [.int .i64 (h : Int), bv, dv, sv, .int .i64 ((i + 1 : Nat) : Int), .agg ⟨z1⟩, .agg ⟨[.int .i64 (h : Int), v2, w2]⟩] s4 := by
      have bxv : bx v2 = some [v2] := g3.isR.bx
      have bxw : bx w2 = some [w2] := y3.isR.bx
      have k2' : ∀ a b : Int, sameV (.agg ⟨[.int .i64 a, .int .u64 b]⟩) (.agg ⟨[.int .i64 a, .int .u64 b]⟩) = true := fun a b => by simp [sameV, sameVs]
      by_cases hdi : i < dd.length
      · have d1 : (i : Int) < dd.length := by omega
        obtain ⟨z, hz⟩ := get_some hdi
        have hzD : dd.getD i false = z := by rw [List.getD_eq_getElem?_getD, hz]; rfl
        rw [hzD] at y1
        obtain ⟨b5, all5, ro5, p1, p2, p3⟩ := hd2.at (bc_get hz)
        obtain ⟨b6, all6, ro6, q1, q2, q3⟩ := hd4.at (bc_get hz)
        have hbb : b6 = b5 := by
          have y1 := hd2.blk (bc_get hz) p1
          have y2 := hd4.blk (bc_get hz) q1
          rw [← y1] at y2
          simpa using y2
        subst hbb
        by_cases hbi : i < bs.length
        · have b1 : (i : Int) < bs.length := by omega
          obtain ⟨y, hy⟩ := get_some hbi
          obtain ⟨b7, all7, ro7, u1, u2, u3⟩ := hb2.at (uc_get hy)
          have hbt' : bt = y.tmod ((2 ^ h : Nat) : Int) := by rw [hbt]; simp only [mkRf, if_pos hbi, List.getD_eq_getElem?_getD, hy, Option.getD_some]
          subst hbt'
          simp only [leapfroglaw12x_Make.l9, leapfroglaw12x_Make.l9.p1, sy, reduceIte, Nat.reduceAdd, Nat.reduceLeDiff, Nat.reduceLT, Nat.reduceEqDiff, Int.reduceEq, Int.reduceLT, Int.reduceLE, Int.reduceNe, ly, hlen, e1, hblen, b1, u1, ldc_row u2, u3, ec, esh, bin_rem hpz, e6, c1, lda_row c2, c3, als_eq, Nat.reduceMul, g1, x1, lda_row x2, x3, samePj, k2', bxv, hdlen, d1, p1, ldc_row p2, p3, y1, hdlen4, sameII, q1, ldc_row q2, q3, sameB, bxw, e5]
        · have b1 : ¬ ((i : Int) < bs.length) := by omega
          have hbt' : bt = 0 := by rw [hbt]; simp only [mkRf, if_neg hbi]
          subst hbt'
          simp only [leapfroglaw12x_Make.l9, leapfroglaw12x_Make.l9.p1, sy, reduceIte, Nat.reduceAdd, Nat.reduceLeDiff, Nat.reduceLT, Nat.reduceEqDiff, Int.reduceEq, Int.reduceLT, Int.reduceLE, Int.reduceNe, ly, hlen, e1, hblen, b1, e6, c1, lda_row c2, c3, als_eq, Nat.reduceMul, g1, x1, lda_row x2, x3, samePj, k2', bxv, hdlen, d1, p1, ldc_row p2, p3, y1, hdlen4, sameII, q1, ldc_row q2, q3, sameB, bxw, e5]
      · have d1 : ¬ ((i : Int) < dd.length) := by omega
        have hzD : dd.getD i false = false := by rw [List.getD_eq_getElem?_getD, List.getElem?_eq_none (by omega)]; rfl
        rw [hzD] at y1
        by_cases hbi : i < bs.length
        · have b1 : (i : Int) < bs.length := by omega
          obtain ⟨y, hy⟩ := get_some hbi
          obtain ⟨b7, all7, ro7, u1, u2, u3⟩ := hb2.at (uc_get hy)
          have hbt' : bt = y.tmod ((2 ^ h : Nat) : Int) := by rw [hbt]; simp only [mkRf, if_pos hbi, List.getD_eq_getElem?_getD, hy, Option.getD_some]
          subst hbt'
          simp only [leapfroglaw12x_Make.l9, leapfroglaw12x_Make.l9.p1, sy, reduceIte, Nat.reduceAdd, Nat.reduceLeDiff, Nat.reduceLT, Nat.reduceEqDiff, Int.reduceEq, Int.reduceLT, Int.reduceLE, Int.reduceNe, ly, hlen, e1, hblen, b1, u1, ldc_row u2, u3, ec, esh, bin_rem hpz, e6, c1, lda_row c2, c3, als_eq, Nat.reduceMul, g1, x1, lda_row x2, x3, samePj, k2', bxv, hdlen, d1, y1, hdlen4, sameII, sameU, bxw, e5]
        · have b1 : ¬ ((i : Int) < bs.length) := by omega
          have hbt' : bt = 0 := by rw [hbt]; simp only [mkRf, if_neg hbi]
          subst hbt'
          simp only [leapfroglaw12x_Make.l9, leapfroglaw12x_Make.l9.p1, sy, reduceIte, Nat.reduceAdd, Nat.reduceLeDiff, Nat.reduceLT, Nat.reduceEqDiff, Int.reduceEq, Int.reduceLT, Int.reduceLE, Int.reduceNe, ly, hlen, e1, hblen, b1, e6, c1, lda_row c2, c3, als_eq, Nat.reduceMul, g1, x1, lda_row x2, x3, samePj, k2', bxv, hdlen, d1, y1, hdlen4, sameII, sameU, bxw, e5]
    rw [goal]
    refine ih d _ _ (by omega) ⟨v2, w2, i + 1, ?_, ?_, y2, y4, by omega, rfl⟩
    · rw [List.range_succ, List.map_append, List.map_append]
      exact g3.stp y5 (by simp)
    · rw [List.range_succ, List.map_append, List.map_append]
      exact y3
theorem make_r {kv bv dv : Value} {h : Nat} {ks bs : List Int} {dd : List Bool} {s : St} (h32 : h ≤ 32) (hk : IsR s 1 kv (ks.map UC)) (hb : IsR s 1 bv (bs.map UC)) (hd : IsR s 1 dv (dd.map BC)) (hb0 : ∀ b ∈ bs, 0 ≤ b) (f : Fresh s) :
    ∃ lv dv' s', leapfroglaw12x_Make.v (.int .i64 (h : Int)) kv bv dv s = some (WV (mkW h ks bs dd) lv dv', s') ∧ WdAt (mkW h ks bs dd) (mkD ks dd) s' lv dv' ∧ More s s' ∧ Fresh s' := by
  obtain ⟨v1, s1, e1, h1, m1, f1⟩ := keys_loop (C1 := undef) (C4 := undef) (bv := bv) (dv := dv) (h := (h : Int)) (z1 := [.int .i64 0, .slice none 0 0, .slice none 0 0]) (z4 := [.int .i64 (h : Int), .slice none 0 0, .slice none 0 0]) hk f
  obtain ⟨v2, s2, e2, h2, m2, f2⟩ := sorted_r h1.isR f1 (by rw [List.length_take]; omega)
  obtain ⟨lv, dv', s3, e3, h3, h4, m3, f3⟩ := make_loop (ks := ks) (z1 := [.int .i64 0, .slice none 0 0, .slice none 0 0]) h32 h2 hb hd f (m1.trans m2) f2
  rw [show ((0 : Nat) : Int) = 0 from rfl] at e1 e3
  refine ⟨lv, dv', s3, ?_, ⟨h3, h4, rfl, mkW_ok h32 hb0, ?_, ?_⟩, m3, f3⟩
  · simp only [leapfroglaw12x_Make.v, leapfroglaw12x_Make.t, sy, reduceIte, Nat.reduceAdd, Nat.reduceLeDiff, Nat.reduceLT, Nat.reduceEqDiff, Int.reduceEq, Int.reduceLT, Int.reduceLE, Int.reduceNe, ly, e1, e2, e3]
    rfl
  · have := mkS_len ks
    simp only [mkW, List.length_map, List.length_range]; omega
  · simp [mkW, mkD]
theorem isU_of {s : St} {v : Value} (h : Leaf.Is s (.sl [.i .u64]) v) : ∃ l : List Int, IsR s 1 v (l.map UC) ∧ ∀ b ∈ l, 0 ≤ b ∧ b ≤ 18446744073709551615 := by
  unfold Leaf.Is at h
  rcases h with rfl | ⟨b, len, cap, rows, rfl, h1, h2, h3, h4, h5⟩
  · exact ⟨[], .nil, by simp⟩
  · have h3 : s.get b = some (.row 1 rows true) := h3
    have g : ∀ r ∈ rows, ∃ n, r = UC n ∧ 0 ≤ n ∧ n ≤ 18446744073709551615 := by
      intro r hr
      have := h5 r hr
      unfold Leaf.Are Leaf.Are Leaf.Is at this
      obtain ⟨_, _, rfl, ⟨n, rfl, hn⟩, rfl⟩ := this
      exact ⟨n, rfl, wf_u64 hn⟩
    have key : ∀ rs : List (List Value), (∀ r ∈ rs, ∃ n, r = UC n ∧ 0 ≤ n ∧ n ≤ 18446744073709551615) → ∃ l : List Int, rs = l.map UC ∧ ∀ b ∈ l, 0 ≤ b ∧ b ≤ 18446744073709551615 := by
      intro rs
      induction rs with
      | nil => intro _; exact ⟨[], rfl, by simp⟩
      | cons r rs ih =>
        intro hr
        obtain ⟨n, rfl, hn⟩ := hr r (by simp)
        obtain ⟨l, rfl, hl⟩ := ih fun x hx => hr x (by simp [hx])
        exact ⟨n :: l, rfl, fun b hb => by rcases List.mem_cons.1 hb with rfl | hb; exact hn; exact hl b hb⟩
    obtain ⟨l, hl, hl2⟩ := key (rows.take len) fun r hr => g r (List.mem_of_mem_take hr)
    have hlen : l.length = len := by have := congrArg List.length hl; rw [List.length_take, List.length_map] at this; omega
    exact ⟨l, .inr ⟨b, 2 * cap, rows, true, by rw [List.length_map, hlen], h3, by rw [List.length_map, hlen]; exact hl⟩, hl2⟩
theorem isB_of {s : St} {v : Value} (h : Leaf.Is s (.sl [.b]) v) : ∃ l : List Bool, IsR s 1 v (l.map BC) := by
  unfold Leaf.Is at h
  rcases h with rfl | ⟨b, len, cap, rows, rfl, h1, h2, h3, h4, h5⟩
  · exact ⟨[], .nil⟩
  · have h3 : s.get b = some (.row 1 rows true) := h3
    have g : ∀ r ∈ rows, ∃ n, r = BC n := by
      intro r hr
      have := h5 r hr
      unfold Leaf.Are Leaf.Are Leaf.Is at this
      obtain ⟨_, _, rfl, ⟨n, rfl⟩, rfl⟩ := this
      exact ⟨n, rfl⟩
    have key : ∀ rs : List (List Value), (∀ r ∈ rs, ∃ n, r = BC n) → ∃ l : List Bool, rs = l.map BC := by
      intro rs
      induction rs with
      | nil => intro _; exact ⟨[], rfl⟩
      | cons r rs ih =>
        intro hr
        obtain ⟨n, rfl⟩ := hr r (by simp)
        obtain ⟨l, rfl⟩ := ih fun x hx => hr x (by simp [hx])
        exact ⟨n :: l, rfl⟩
    obtain ⟨l, hl⟩ := key (rows.take len) fun r hr => g r (List.mem_of_mem_take hr)
    have hlen : l.length = len := by have := congrArg List.length hl; rw [List.length_take, List.length_map] at this; omega
    exact ⟨l, .inr ⟨b, 2 * cap, rows, true, by rw [List.length_map, hlen], h3, by rw [List.length_map, hlen]; exact hl⟩⟩
theorem tmod_nat {a : Int} {k : Nat} (ha : 0 ≤ a) (hk : 0 < k) : ∃ n : Nat, a.tmod (k : Int) = (n : Int) ∧ n < k := by
  refine ⟨(a.tmod k).toNat, ?_, ?_⟩
  · have := Int.tmod_nonneg (k : Int) ha; omega
  · have := Int.tmod_nonneg (k : Int) ha
    have := Int.tmod_lt_of_pos a (show (0 : Int) < k by omega)
    omega
end Go.Proofs.Ytogcfnhbacglfaa
