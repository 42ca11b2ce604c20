/-
  The fields of an ask, the ask of fields, and which asks may be, by the program.
-/
import Derived.Test.YteapmnolmfickaaMsgB
set_option linter.unusedSimpArgs false
set_option linter.unusedVariables false
set_option maxRecDepth 100000
set_option maxHeartbeats 4000000
namespace Go.Proofs.Yteapmnolmfickaa
open Go.Sim Go.Sim.Bt
attribute [local congr] bdc cndc itec gdc gdSc gdUc

def rvA (c i : Nat) : Value := .slice (some ⟨c, i, some 0⟩) (2 - i) (2 * (2 - i))
theorem rv_step {s : St} {c i sz : Nat} {x y : List Value} (hg : s.get c = some (.row sz [x, y] false)) (hi : i < 2) (hx : x.length = sz) (hy : y.length = sz) :
    idx s sz (rvA c i) (.int .i64 0) = some (.pointer (some ⟨c, i, some 0⟩)) ∧ lda s sz (.pointer (some ⟨c, i, some 0⟩)) = some (.agg ⟨if i = 0 then x else y⟩) ∧ slc s sz (rvA c i) (some (.int .i64 1)) none none = some (rvA c (i + 1)) := by
  have e1 : optN (some (Value.int .i64 1)) 0 = some 1 := rfl
  have e2 : ∀ n, optN none n = some n := fun _ => rfl
  have hl : ∀ (l : List Value), l.length = sz → l.take sz = l := fun l h => by rw [← h, List.take_length]
  refine ⟨?_, ?_, ?_⟩
  · have := idx_row (k := .i64) (i := i) (n := 0) (len := 2 - i) (e := 2 * (2 - i)) hg (by omega) (by omega)
    simpa [rvA] using this
  · rw [lda_row hg]
    rcases (show i = 0 ∨ i = 1 by omega) with rfl | rfl
    · simp [hx, hl x hx]
    · simp [hy, hl y hy]
  · unfold slc rvA
    rw [e1, bds]
    show ((optN none (2 - i)).bind _) = _
    rw [e2, bds, hg]
    show (if sz = sz ∧ 1 ≤ 2 - i then (if 2 * (2 - i) = 1 then _ else if 2 - i ≤ 2 * (2 - i) / 2 then some (Value.slice (some ⟨c, i + 1, some 0⟩) (2 - i - 1) (2 * (2 * (2 - i) / 2 - 1))) else none) else none) = _
    rw [if_pos ⟨rfl, by omega⟩, if_neg (by omega), if_pos (by omega)]
    rcases (show i = 0 ∨ i = 1 by omega) with rfl | rfl <;> rfl
/-- What the loop of an ask's fields answers. -/
def AkIs (s0 : St) (a : AskP) (r : Nat → Option Cut) : Option (List Fd) → Prop
  | some fs => ∃ ov s', (∀ e, r e = some (0, [ov, .agg ⟨aC a⟩], s')) ∧ More s0 s' ∧ Fresh s' ∧ Ful s0.n s' 14 ov (fs.map Fd.cs)
  | none => ∃ s', (∀ e, r e = some (1, [.slice none 0 0, .bool false], s')) ∧ More s0 s' ∧ Fresh s'
def cnt (x : Int) (l : List Int) : Nat := (l.filter fun k => decide (k = x)).length
theorem askloop {s0 : St} {a : AskP} {c1 c2 : Nat} {kv : Value} {L : List Int} (f0 : Fresh s0) (hL : L.length ≤ 10) (g1 : s0.get c1 = some (.row 5 [a.r.cs, a.r2.cs] false)) (g2 : s0.get c2 = some (.row 1 [[.int .i64 a.oa], [.int .i64 a.oo]] false)) (hk : IsR s0 1 kv (ki L))
    (hw : 0 ≤ a.wb) (hr : 0 ≤ a.r.bt) (hr2 : 0 ≤ a.r2.bt) : ∀ (ks : List Int) (j ri ii : Nat) {s : St} {ov : Value} {out : List Fd}, L.drop j = ks → j ≤ L.length → (∀ k ∈ ks, k = 5 ∨ k = 7 ∨ k = 2) → ri + cnt 7 ks ≤ 2 → ii + cnt 2 ks ≤ 2 → out.length = j → Fresh s → More s0 s → Ful s0.n s 14 ov (out.map Fd.cs) →
    AkIs s0 a (fun e => iter (msg_ask.l7 std) (e + ks.length + 1) [ov, rvA c1 ri, rvA c2 ii, kv, .int .i64 (L.length : Int), .int .i64 (j : Int), .agg ⟨aC a⟩] s) (askL a ks ri ii out)
  | [], j, ri, ii, s, ov, out, hd, hj, hks, h7, h2, ho, f, m, h => by
    have : j = L.length := by
      have := congrArg List.length hd
      simp at this; omega
    subst this
    unfold askL
    refine ⟨ov, s, fun e => ?_, m, f, h⟩
    have lt1 : bin .lss (.int .i64 (L.length : Int)) (.int .i64 (L.length : Int)) = some (.bool false) := by
      rw [bin_lss, decide_eq_false (by omega)]
    dsimp only
    rw [iter_succ]
    unfold msg_ask.l7
    simp only [std_bd, std_cnd, List.getD_cons_zero, List.getD_cons_succ, lt1, bds, cndf, cellsA]
  | k :: ks, j, ri, ii, s, ov, out, hd, hj, hks, h7, h2, ho, f, m, h => by
    have hlt : j < L.length := by
      have := congrArg List.length hd
      simp at this; omega
    have hkj : L[j]? = some k := by
      have e := congrArg (fun l => l[0]?) hd
      simpa using e
    have hd' : L.drop (j + 1) = ks := by
      have e := congrArg List.tail hd
      simpa [List.tail_drop] using e
    obtain ⟨b, all, ro, i1, i2, i3⟩ := (hk.more m f0).at (j := j) (r := [.int .i64 k]) (by simp [ki, hkj])
    have i4 : ldc s (.pointer (some ⟨b, j, some 0⟩)) = some (.int .i64 k) := by rw [ldc_row i2, i3]; rfl
    have lt0 : (j : Int) < (L.length : Int) := by omega
    have add0 : IntKind.i64.wrap ((j : Int) + 1) = ((j + 1 : Nat) : Int) := by rw [wrap64 (by omega) (by omega)]; omega
    have als14 : ∀ (g : Fd) (t : St), als t 14 1 [g.cs] = some (.slice (some ⟨t.n, 0, some 0⟩) 1 2, t.new (.row 14 [g.cs] false)) := fun _ _ => rfl
    obtain ⟨ov', s', p1, p2, p3, p4, _⟩ := push f h m (by_ := 128) (fieldOf a k ri ii).cs (by simp; omega) (by simp; omega)
    have p3' : Ful s0.n s' 14 ov' ((out ++ [fieldOf a k ri ii]).map Fd.cs) := by rw [List.map_append]; exact p3
    have e14 := als14 (fieldOf a k ri ii) s
    have hgc := m.get f0 g1
    have hgi := m.get f0 g2
    unfold askL
    -- one round
    have step : ∀ (ri' ii' : Nat), ri' = ri + (if k = 7 then 1 else 0) → ii' = ii + (if k = 2 then 1 else 0) → (okM (fieldOf a k ri ii) → ∀ e, iter (msg_ask.l7 std) (e + 1) [ov, rvA c1 ri, rvA c2 ii, kv, .int .i64 (L.length : Int), .int .i64 (j : Int), .agg ⟨aC a⟩] s = iter (msg_ask.l7 std) e [ov', rvA c1 ri', rvA c2 ii', kv, .int .i64 (L.length : Int), .int .i64 ((j + 1 : Nat) : Int), .agg ⟨aC a⟩] s') ∧
        (¬ okM (fieldOf a k ri ii) → ∀ e, iter (msg_ask.l7 std) (e + 1) [ov, rvA c1 ri, rvA c2 ii, kv, .int .i64 (L.length : Int), .int .i64 (j : Int), .agg ⟨aC a⟩] s = some (1, [.slice none 0 0, .bool false], s)) := by
      rintro ri' ii' rfl rfl
      rcases hks k (by simp) with rfl | rfl | rfl
      · have hf : fieldOf a 5 ri ii = mV a.wl a.wb := rfl
        rw [hf] at p1 e14 ⊢
        have hc := chkM (mV a.wl a.wb) rfl hw (Int.le_refl _) s
        have n1 : ri + (if (5 : Int) = 7 then 1 else 0) = ri := rfl
        have n2 : ii + (if (5 : Int) = 2 then 1 else 0) = ii := rfl
        rw [n1, n2]
        simp only [Fd.cs, mV, nilB] at p1 e14
        constructor
        · intro g e
          rw [if_pos g] at hc
          simp only [Fd.v, Fd.cs, mV, nilB] at hc
          rw [iter_succ]
          generalize iter (msg_ask.l7 std) e = R
          simp only [msg_ask.l7, msg_ask.l7.p1, aC, sy, reduceIte, Nat.reduceAdd, Nat.reduceLeDiff, Nat.reduceLT, Nat.reduceEqDiff, Int.reduceEq, Int.reduceLT, Int.reduceLE, Int.reduceNe, ly, lt0, i1, i4, hc, e14, p1, add0]
        · intro g e
          rw [if_neg g] at hc
          simp only [Fd.v, Fd.cs, mV, nilB] at hc
          rw [iter_succ]
          simp only [msg_ask.l7, msg_ask.l7.p1, aC, sy, reduceIte, Nat.reduceAdd, Nat.reduceLeDiff, Nat.reduceLT, Nat.reduceEqDiff, Int.reduceEq, Int.reduceLT, Int.reduceLE, Int.reduceNe, ly, lt0, i1, i4, hc]
      · have hri : ri < 2 := by
          have : cnt 7 (7 :: ks) = cnt 7 ks + 1 := by simp [cnt]
          omega
        obtain ⟨w1, w2, w3⟩ := rv_step hgc hri rfl rfl
        have hf : fieldOf a 7 ri ii = mR (if ri = 0 then a.r else a.r2) := rfl
        rw [hf] at p1 e14 ⊢
        have hw2 : lda s 5 (.pointer (some ⟨c1, ri, some 0⟩)) = some (.agg ⟨(if ri = 0 then a.r else a.r2).cs⟩) := by
          rw [w2]; split <;> rfl
        have hb : 0 ≤ (if ri = 0 then a.r else a.r2).bt := by split <;> assumption
        generalize (if ri = 0 then a.r else a.r2) = q at *
        have hc := chkM (mR q) rfl (Int.le_refl _) hb s
        have n1 : ri + (if (7 : Int) = 7 then 1 else 0) = ri + 1 := rfl
        have n2 : ii + (if (7 : Int) = 2 then 1 else 0) = ii := rfl
        rw [n1, n2]
        simp only [Fd.cs, mR, nilB] at p1 e14
        constructor
        · intro g e
          rw [if_pos g] at hc
          simp only [Fd.v, Fd.cs, mR, nilB] at hc
          rw [iter_succ]
          generalize iter (msg_ask.l7 std) e = R
          simp only [msg_ask.l7, msg_ask.l7.p1, aC, sy, reduceIte, Nat.reduceAdd, Nat.reduceLeDiff, Nat.reduceLT, Nat.reduceEqDiff, Int.reduceEq, Int.reduceLT, Int.reduceLE, Int.reduceNe, ly, lt0, i1, i4, w1, hw2, w3, hc, e14, p1, add0]
        · intro g e
          rw [if_neg g] at hc
          simp only [Fd.v, Fd.cs, mR, nilB] at hc
          rw [iter_succ]
          simp only [msg_ask.l7, msg_ask.l7.p1, aC, sy, reduceIte, Nat.reduceAdd, Nat.reduceLeDiff, Nat.reduceLT, Nat.reduceEqDiff, Int.reduceEq, Int.reduceLT, Int.reduceLE, Int.reduceNe, ly, lt0, i1, i4, w1, hw2, w3, hc]
      · have hii : ii < 2 := by
          have : cnt 2 (2 :: ks) = cnt 2 ks + 1 := by simp [cnt]
          omega
        obtain ⟨w1, w2, w3⟩ := rv_step hgi hii rfl rfl
        have hf : fieldOf a 2 ri ii = mI (if ii = 0 then a.oa else a.oo) := rfl
        rw [hf] at p1 e14 ⊢
        have hw2 : ldc s (.pointer (some ⟨c2, ii, some 0⟩)) = some (.int .i64 (if ii = 0 then a.oa else a.oo)) := by
          rw [ldc_row hgi]
          rcases (show ii = 0 ∨ ii = 1 by omega) with rfl | rfl <;> rfl
        generalize (if ii = 0 then a.oa else a.oo) = q at *
        have hc := chkM (mI q) rfl (Int.le_refl _) (Int.le_refl _) s
        have n1 : ri + (if (2 : Int) = 7 then 1 else 0) = ri := rfl
        have n2 : ii + (if (2 : Int) = 2 then 1 else 0) = ii + 1 := rfl
        rw [n1, n2]
        simp only [Fd.cs, mI, nilB] at p1 e14
        constructor
        · intro g e
          rw [if_pos g] at hc
          simp only [Fd.v, Fd.cs, mI, nilB] at hc
          rw [iter_succ]
          generalize iter (msg_ask.l7 std) e = R
          simp only [msg_ask.l7, msg_ask.l7.p1, aC, sy, reduceIte, Nat.reduceAdd, Nat.reduceLeDiff, Nat.reduceLT, Nat.reduceEqDiff, Int.reduceEq, Int.reduceLT, Int.reduceLE, Int.reduceNe, ly, lt0, i1, i4, w1, hw2, w3, hc, e14, p1, add0]
        · intro g e
          rw [if_neg g] at hc
          simp only [Fd.v, Fd.cs, mI, nilB] at hc
          rw [iter_succ]
          simp only [msg_ask.l7, msg_ask.l7.p1, aC, sy, reduceIte, Nat.reduceAdd, Nat.reduceLeDiff, Nat.reduceLT, Nat.reduceEqDiff, Int.reduceEq, Int.reduceLT, Int.reduceLE, Int.reduceNe, ly, lt0, i1, i4, w1, hw2, w3, hc]
    obtain ⟨st1, st2⟩ := step _ _ rfl rfl
    by_cases g : okM (fieldOf a k ri ii)
    · rw [if_pos g]
      have h7' : ri + (if k = 7 then 1 else 0) + cnt 7 ks ≤ 2 := by
        by_cases e : k = 7
        · subst e
          have : cnt 7 (7 :: ks) = cnt 7 ks + 1 := by simp [cnt]
          rw [if_pos rfl]; omega
        · have : cnt 7 (k :: ks) = cnt 7 ks := by simp [cnt, e]
          rw [if_neg e]; omega
      have h2' : ii + (if k = 2 then 1 else 0) + cnt 2 ks ≤ 2 := by
        by_cases e : k = 2
        · subst e
          have : cnt 2 (2 :: ks) = cnt 2 ks + 1 := by simp [cnt]
          rw [if_pos rfl]; omega
        · have : cnt 2 (k :: ks) = cnt 2 ks := by simp [cnt, e]
          rw [if_neg e]; omega
      have ih := askloop f0 hL g1 g2 hk hw hr hr2 ks (j + 1) _ _ hd' (by omega) (fun x hx => hks x (by simp [hx])) h7' h2' (by simp [ho]) p4 p2 p3'
      revert ih
      cases askL a ks (ri + if k = 7 then 1 else 0) (ii + if k = 2 then 1 else 0) (out ++ [fieldOf a k ri ii]) with
      | some fs =>
        rintro ⟨ov2, s2, q1, q2⟩
        exact ⟨ov2, s2, fun e => (st1 g (e + ks.length + 1)).trans (q1 e), q2⟩
      | none =>
        rintro ⟨s2, q1, q2⟩
        exact ⟨s2, fun e => (st1 g (e + ks.length + 1)).trans (q1 e), q2⟩
    · rw [if_neg g]
      exact ⟨s, fun e => st2 g (e + ks.length + 1), m, f⟩

/-! ### The ask of some fields -/

def madeL : List Fd → Bool → Bool → AskP → AskP
  | [], _, _, a => a
  | f :: fs, rf, it, a => if f.k = 5 then madeL fs rf it { a with wl := f.vl, wb := f.vb }
    else if f.k = 7 then (if rf then madeL fs rf it { a with r2 := ⟨f.id, f.rr, f.rn, f.rl, f.rb⟩ } else madeL fs true it { a with r := ⟨f.id, f.rr, f.rn, f.rl, f.rb⟩ })
    else if it then madeL fs rf it { a with oo := f.i } else madeL fs rf true { a with oa := f.i }
def cB (b : Bool) : Value := .int .i64 (if b then 1 else 0)
theorem madeloop {s : St} {v : Value} {fs : List Fd} {z : List Value} (h : IsR s 14 v (fs.map Fd.cs)) (hbx : ∀ f ∈ fs, f.b = nilB) (hl : fs.length ≤ 10) : ∀ (gs : List Fd) (j : Nat) (rf it : Bool) (a : AskP), fs.drop j = gs → j ≤ fs.length →
    ∃ x y, ∀ e, iter (msg_made.l4 std) (e + gs.length + 1) [cB rf, cB it, v, .int .i64 (fs.length : Int), .int .i64 (j : Int), .agg ⟨z⟩, .agg ⟨aC a⟩] s = some ((0, [.agg ⟨z⟩, .agg ⟨aC (madeL gs rf it a)⟩], s) : Cut) ∧ x = y ∧ x = (0 : Nat)
  | [], j, rf, it, a, hd, hj => by
    have : j = fs.length := by
      have := congrArg List.length hd
      simp at this; omega
    subst this
    refine ⟨0, 0, fun e => ⟨?_, rfl, rfl⟩⟩
    have lt1 : bin .lss (.int .i64 (fs.length : Int)) (.int .i64 (fs.length : Int)) = some (.bool false) := by
      rw [bin_lss, decide_eq_false (by omega)]
    rw [iter_succ]
    unfold msg_made.l4
    simp only [std_bd, std_cnd, List.getD_cons_zero, List.getD_cons_succ, lt1, bds, cndf, cellsA, madeL]
  | f :: gs, j, rf, it, a, hd, hj => by
    have hlt : j < fs.length := by
      have := congrArg List.length hd
      simp at this; omega
    have hfj : fs[j]? = some f := by
      have e := congrArg (fun l => l[0]?) hd
      simpa using e
    have hd' : fs.drop (j + 1) = gs := by
      have e := congrArg List.tail hd
      simpa [List.tail_drop] using e
    have hfb := hbx f (List.mem_of_getElem? hfj)
    obtain ⟨b, all, ro, i1, i2, i3⟩ := h.at (j := j) (r := f.cs) (by rw [List.getElem?_map, hfj]; rfl)
    have i4 : lda s 14 (.pointer (some ⟨b, j, some 0⟩)) = some (.agg ⟨f.cs⟩) := by rw [lda_row i2, i3]; rfl
    have lt0 : (j : Int) < (fs.length : Int) := by omega
    have add0 : IntKind.i64.wrap ((j : Int) + 1) = ((j + 1 : Nat) : Int) := by rw [wrap64 (by omega) (by omega)]; omega
    have w1 : IntKind.i64.wrap (0 + 1) = 1 := rfl
    refine ⟨0, 0, fun e => ⟨?_, rfl, rfl⟩⟩
    rw [show e + (f :: gs).length + 1 = (e + gs.length + 1) + 1 by simp; omega, iter_succ]
    unfold madeL
    have c10 : ¬ ((1 : Int) = 0) := by omega
    simp only [Fd.cs, hfb, nilB] at i4
    by_cases h5 : f.k = 5
    · rw [if_pos h5]
      obtain ⟨_, _, ih⟩ := madeloop (z := z) h hbx hl gs (j + 1) rf it { a with wl := f.vl, wb := f.vb } hd' (by omega)
      have ih := (ih e).1
      revert ih
      generalize iter (msg_made.l4 std) (e + gs.length + 1) = R
      intro ih
      simp only [aC] at ih ⊢
      simp only [msg_made.l4, sy, reduceIte, Nat.reduceAdd, Nat.reduceLeDiff, Nat.reduceLT, Nat.reduceEqDiff, Int.reduceEq, Int.reduceLT, Int.reduceLE, Int.reduceNe, ly, lt0, i1, i4, h5, add0]
      exact ih
    · rw [if_neg h5]
      by_cases h7 : f.k = 7
      · rw [if_pos h7]
        cases rf
        · simp only [Bool.false_eq_true, if_false]
          obtain ⟨_, _, ih⟩ := madeloop (z := z) h hbx hl gs (j + 1) true it { a with r := ⟨f.id, f.rr, f.rn, f.rl, f.rb⟩ } hd' (by omega)
          have ih := (ih e).1
          revert ih
          generalize iter (msg_made.l4 std) (e + gs.length + 1) = R
          intro ih
          simp only [aC, cB, if_true] at ih ⊢
          simp only [msg_made.l4, msg_made.l4.p1, sy, reduceIte, Nat.reduceAdd, Nat.reduceLeDiff, Nat.reduceLT, Nat.reduceEqDiff, Int.reduceEq, Int.reduceLT, Int.reduceLE, Int.reduceNe, ly, lt0, i1, i4, h7, add0, w1]
          exact ih
        · simp only [if_true]
          obtain ⟨_, _, ih⟩ := madeloop (z := z) h hbx hl gs (j + 1) true it { a with r2 := ⟨f.id, f.rr, f.rn, f.rl, f.rb⟩ } hd' (by omega)
          have ih := (ih e).1
          revert ih
          generalize iter (msg_made.l4 std) (e + gs.length + 1) = R
          intro ih
          simp only [aC, cB, if_true] at ih ⊢
          simp only [msg_made.l4, msg_made.l4.p1, sy, reduceIte, Nat.reduceAdd, Nat.reduceLeDiff, Nat.reduceLT, Nat.reduceEqDiff, Int.reduceEq, Int.reduceLT, Int.reduceLE, Int.reduceNe, ly, lt0, i1, i4, h7, c10, add0]
          exact ih
      · rw [if_neg h7]
        cases it
        · simp only [Bool.false_eq_true, if_false]
          obtain ⟨_, _, ih⟩ := madeloop (z := z) h hbx hl gs (j + 1) rf true { a with oa := f.i } hd' (by omega)
          have ih := (ih e).1
          revert ih
          generalize iter (msg_made.l4 std) (e + gs.length + 1) = R
          intro ih
          simp only [aC, cB, if_true] at ih ⊢
          simp only [msg_made.l4, msg_made.l4.p1, sy, reduceIte, Nat.reduceAdd, Nat.reduceLeDiff, Nat.reduceLT, Nat.reduceEqDiff, Int.reduceEq, Int.reduceLT, Int.reduceLE, Int.reduceNe, ly, lt0, i1, i4, h5, h7, add0, w1]
          exact ih
        · simp only [if_true]
          obtain ⟨_, _, ih⟩ := madeloop (z := z) h hbx hl gs (j + 1) rf true { a with oo := f.i } hd' (by omega)
          have ih := (ih e).1
          revert ih
          generalize iter (msg_made.l4 std) (e + gs.length + 1) = R
          intro ih
          simp only [aC, cB, if_true] at ih ⊢
          simp only [msg_made.l4, msg_made.l4.p1, sy, reduceIte, Nat.reduceAdd, Nat.reduceLeDiff, Nat.reduceLT, Nat.reduceEqDiff, Int.reduceEq, Int.reduceLT, Int.reduceLE, Int.reduceNe, ly, lt0, i1, i4, h5, h7, c10, add0]
          exact ih
theorem made_r {s : St} {v : Value} {fs : List Fd} (k : Int) (h : IsR s 14 v (fs.map Fd.cs)) (hbx : ∀ f ∈ fs, f.b = nilB) (hl : fs.length ≤ 10) : msg_made.r (.int .i64 k) v s = some (.agg ⟨aC (madeL fs false false ⟨k, 0, 0, zR, zR, 0, 0⟩)⟩) := by
  obtain ⟨_, _, g⟩ := madeloop (z := aC ⟨0, 0, 0, zR, zR, 0, 0⟩) h hbx hl fs 0 false false ⟨k, 0, 0, zR, zR, 0, 0⟩ (by simp) (by omega)
  have g := (g (BIG - fs.length - 1)).1
  rw [show BIG - fs.length - 1 + fs.length + 1 = BIG by unfold BIG; omega] at g
  have hlen := h.len
  rw [List.length_map] at hlen
  have g : iter (msg_made.l4 std) BIG [.int .i64 0, .int .i64 0, v, .int .i64 (fs.length : Int), .int .i64 0, .agg ⟨aC ⟨0, 0, 0, zR, zR, 0, 0⟩⟩, .agg ⟨aC ⟨k, 0, 0, zR, zR, 0, 0⟩⟩] s = _ := g
  generalize madeL fs false false ⟨k, 0, 0, zR, zR, 0, 0⟩ = A at *
  simp only [aC, zR] at g ⊢
  simp only [msg_made.r, msg_made.t, sy, reduceIte, Nat.reduceAdd, Nat.reduceLeDiff, Nat.reduceLT, Nat.reduceEqDiff, Int.reduceEq, Int.reduceLT, Int.reduceLE, Int.reduceNe, ly, hlen, g]
end Go.Proofs.Yteapmnolmfickaa
