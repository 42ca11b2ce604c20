/-
  InsertEnds, over abstract values.
-/
import Derived.Test.YteafgjpbfhjbjaaGreatInsE
set_option linter.unusedSimpArgs false
set_option linter.unusedVariables false
set_option maxRecDepth 100000
set_option maxHeartbeats 2000000
namespace Go.Proofs.YteafgjpbfhjbjaaGreat
open Go.Sim Go.Sim.Bt
attribute [local congr] bdc cndc itec gdc gdSc gdUc
namespace InsertEnds
theorem alive_r (s : St) : l15aliveC.r s = some (.bool true) := rfl
def Bad3 (e : Int) : Prop := e = 100 ∨ e = 121 ∨ e = 131
def ThLow (n : Int) : Sp.Th → Prop
  | .no => True
  | .fin r => Bad3 r.e → n = 0
  | _ => n = 0
def ThUp : Sp.Th → Prop
  | .fin r => r.e ≠ 100 ∧ r.e ≠ 121
  | .ex => False
  | _ => True
def Low (mp : Sp.Mm) (n : Int) : Prop :=
  (mp.at' = 1 ∨ mp.at' = 2 ∨ mp.at' = 3 ∨ mp.at' = 9 → n = 0) ∧ (mp.at' = 4 ∨ mp.at' = 5 ∨ mp.at' = 6 ∨ mp.at' = 7 → n = 1) ∧ (mp.at' = 8 → ThLow n mp.th) ∧ (mp.at' = 10 → Bad3 mp.res.e → n = 0)
def Up (mp : Sp.Mm) : Prop := mp.at' ≠ 2 ∧ (mp.at' = 8 → ThUp mp.th) ∧ (mp.at' = 10 → mp.res.e ≠ 100 ∧ mp.res.e ≠ 121)
def cnt' (mp : Sp.Mm) (a : Ans) (n : Int) : Int := if mp.at' = 3 ∧ a.k = 1 then n + 1 else if mp.at' = 7 then n - 1 else n
theorem low_run {mp : Sp.Mm} {t : Sp.Th} {n : Int} (h : ThLow n t) (hn : t ≠ .no) : Low (Sp.runC mp t) n := by
  cases t with
  | no => exact absurd rfl hn
  | fin r => exact ⟨by simp [Sp.runC], by simp [Sp.runC], by simp [Sp.runC], fun _ g => h g⟩
  | wait => exact ⟨fun _ => h, by simp [Sp.runC], by simp [Sp.runC], by simp [Sp.runC]⟩
  | next => exact ⟨fun _ => h, by simp [Sp.runC], by simp [Sp.runC], by simp [Sp.runC]⟩
  | ex => exact ⟨by simp [Sp.runC], by simp [Sp.runC], by simp [Sp.runC], fun _ _ => h⟩
theorem low_free {mp : Sp.Mm} {t : Sp.Th} {n : Int} (h : ThLow n t) (hn : t ≠ .no) : Low (Sp.freeC mp t) n := by
  unfold Sp.freeC
  split
  · exact low_run h hn
  · exact ⟨by simp, by simp, fun _ => h, by simp⟩
theorem up_run {mp : Sp.Mm} {t : Sp.Th} (h : ThUp t) (hn : t ≠ .no) : Up (Sp.runC mp t) := by
  cases t with
  | no => exact absurd rfl hn
  | fin r => exact ⟨by simp [Sp.runC], by simp [Sp.runC], fun _ => h⟩
  | wait => exact ⟨by simp [Sp.runC], by simp [Sp.runC], by simp [Sp.runC]⟩
  | next => exact ⟨by simp [Sp.runC], by simp [Sp.runC], by simp [Sp.runC]⟩
  | ex => exact h.elim
theorem up_free {mp : Sp.Mm} {t : Sp.Th} (h : ThUp t) (hn : t ≠ .no) : Up (Sp.freeC mp t) := by
  unfold Sp.freeC
  split
  · exact up_run h hn
  · exact ⟨by simp, fun _ => h, by simp⟩
theorem low_look {cf : Sp.Cf} {mp : Sp.Mm} (h1 : mp.at' = 1) : Low (Sp.lookC cf mp) 0 := by
  unfold Sp.lookC
  split
  · exact low_free (t := .fin (Sp.finR 131)) (fun _ => rfl) (by simp)
  · split
    · exact low_free (t := .next) rfl (by simp)
    · split
      · exact ⟨fun _ => rfl, by simp, by simp, by simp⟩
      · split
        · exact low_free (t := .wait) rfl (by simp)
        · exact ⟨fun _ => rfl, by simp, by simp, by simp⟩
theorem up_look {cf : Sp.Cf} {mp : Sp.Mm} (hw : 0 < cf.wl) : Up (Sp.lookC cf mp) := by
  unfold Sp.lookC
  split
  · exact up_free (t := .fin (Sp.finR 131)) (by simp [ThUp, Sp.finR]) (by simp)
  · split
    · exact up_free (t := .next) trivial (by simp)
    · split
      · exact ⟨by simp, by simp, by simp⟩
      · exact up_free (t := .wait) trivial (by simp)
theorem low_tell {cf : Sp.Cf} {mp : Sp.Mm} {n : Int} (hi : Sp.InvM mp) (h : Low mp n) (a : Ans) (h10 : mp.at' ≠ 10) : Low (Sp.tellC cf mp a) (cnt' mp a n) := by
  obtain ⟨l1, l2, l3, l4⟩ := h
  obtain ⟨i1, i2, i3, i4⟩ := hi
  have hp : mp.at' = 1 ∨ mp.at' = 2 ∨ mp.at' = 3 ∨ mp.at' = 4 ∨ mp.at' = 5 ∨ mp.at' = 6 ∨ mp.at' = 7 ∨ mp.at' = 8 ∨ mp.at' = 9 := by omega
  rcases hp with hp | hp | hp | hp | hp | hp | hp | hp | hp
  · have hn := l1 (.inl hp)
    subst hn
    have hc : cnt' mp a 0 = 0 := by simp [cnt', hp]
    rw [hc]
    unfold Sp.tellC
    rw [if_pos hp]
    split
    · exact low_look hp
    · split
      · split
        · exact ⟨by simp, by simp, by simp, fun _ _ => rfl⟩
        · exact ⟨fun _ => rfl, by simp, by simp, by simp⟩
      · exact ⟨fun _ => rfl, by simp, by simp, by simp⟩
  · have hn := l1 (.inr (.inl hp))
    subst hn
    have hc : cnt' mp a 0 = 0 := by simp [cnt', hp]
    rw [hc]
    unfold Sp.tellC
    rw [if_neg (by omega), if_pos hp]
    split
    · exact low_free (t := .ex) rfl (by simp)
    · exact low_free (t := .wait) rfl (by simp)
  · have hn := l1 (.inr (.inr (.inl hp)))
    subst hn
    unfold Sp.tellC
    rw [if_neg (by omega), if_neg (by omega), if_pos hp]
    split
    · rename_i k1
      have hc : cnt' mp a 0 = 1 := by simp [cnt', hp, k1]
      rw [hc]
      exact ⟨by simp, fun _ => rfl, by simp, by simp⟩
    · rename_i k1
      have hc : cnt' mp a 0 = 0 := by simp [cnt', hp, k1]
      rw [hc]
      split
      · exact low_free (t := .fin (Sp.finR 132)) (fun _ => rfl) (by simp)
      · exact low_free (t := .fin (Sp.finR 133)) (fun _ => rfl) (by simp)
  · have hn := l2 (.inl hp)
    subst hn
    have hc : cnt' mp a 1 = 1 := by simp [cnt', hp]
    rw [hc]
    unfold Sp.tellC
    rw [if_neg (by omega), if_neg (by omega), if_neg (by omega), if_pos hp]
    split
    · exact ⟨by simp, fun _ => rfl, by simp, by simp⟩
    · exact ⟨by simp, fun _ => rfl, by simp, by simp⟩
  · have hn := l2 (.inr (.inl hp))
    subst hn
    have hc : cnt' mp a 1 = 1 := by simp [cnt', hp]
    rw [hc]
    unfold Sp.tellC
    rw [if_neg (by omega), if_neg (by omega), if_neg (by omega), if_neg (by omega), if_pos hp]
    exact ⟨by simp, fun _ => rfl, by simp, by simp⟩
  · have hn := l2 (.inr (.inr (.inl hp)))
    subst hn
    have hc : cnt' mp a 1 = 1 := by simp [cnt', hp]
    rw [hc]
    unfold Sp.tellC
    rw [if_neg (by omega), if_neg (by omega), if_neg (by omega), if_neg (by omega), if_neg (by omega), if_pos hp]
    split
    · exact low_free (t := .fin (Sp.finR 132)) (fun g => by simp [Bad3, Sp.finR] at g) (by simp)
    · exact low_free (t := .fin ⟨0, 0, mp.p, mp.r, false⟩) (fun g => by simp [Bad3] at g) (by simp)
  · have hn := l2 (.inr (.inr (.inr hp)))
    subst hn
    have hc : cnt' mp a 1 = 0 := by simp [cnt', hp]
    rw [hc]
    unfold Sp.tellC
    rw [if_neg (by omega), if_neg (by omega), if_neg (by omega), if_neg (by omega), if_neg (by omega), if_neg (by omega), if_pos hp]
    split
    · exact low_free (t := .fin (Sp.finR 132)) (fun _ => rfl) (by simp)
    · exact low_free (t := .fin (Sp.finR 131)) (fun _ => rfl) (by simp)
  · have hc : cnt' mp a n = n := by simp [cnt', hp]
    rw [hc]
    unfold Sp.tellC
    rw [if_neg (by omega), if_neg (by omega), if_neg (by omega), if_neg (by omega), if_neg (by omega), if_neg (by omega), if_neg (by omega), if_pos hp]
    exact low_run (l3 hp) (i4 hp)
  · have hc : cnt' mp a n = n := by simp [cnt', hp]
    rw [hc]
    unfold Sp.tellC
    rw [if_neg (by omega), if_neg (by omega), if_neg (by omega), if_neg (by omega), if_neg (by omega), if_neg (by omega), if_neg (by omega), if_neg (by omega)]
    exact ⟨l1, l2, l3, l4⟩
theorem up_tell {cf : Sp.Cf} {mp : Sp.Mm} (hi : Sp.InvM mp) (hw : 0 < cf.wl) (h : Up mp) (a : Ans) (h10 : mp.at' ≠ 10) : Up (Sp.tellC cf mp a) := by
  obtain ⟨l1, l3, l4⟩ := h
  obtain ⟨i1, i2, i3, i4⟩ := hi
  have hp : mp.at' = 1 ∨ mp.at' = 3 ∨ mp.at' = 4 ∨ mp.at' = 5 ∨ mp.at' = 6 ∨ mp.at' = 7 ∨ mp.at' = 8 ∨ mp.at' = 9 := by omega
  rcases hp with hp | hp | hp | hp | hp | hp | hp | hp
  · unfold Sp.tellC
    rw [if_pos hp]
    split
    · exact up_look hw
    · split
      · split
        · exact ⟨by simp, by simp, by simp [Sp.finR]⟩
        · exact ⟨by simp, by simp, by simp⟩
      · exact ⟨by simp, by simp, by simp⟩
  · unfold Sp.tellC
    rw [if_neg (by omega), if_neg (by omega), if_pos hp]
    split
    · exact ⟨by simp, by simp, by simp⟩
    · split
      · exact up_free (t := .fin (Sp.finR 132)) (by simp [ThUp, Sp.finR]) (by simp)
      · exact up_free (t := .fin (Sp.finR 133)) (by simp [ThUp, Sp.finR]) (by simp)
  · unfold Sp.tellC
    rw [if_neg (by omega), if_neg (by omega), if_neg (by omega), if_pos hp]
    split
    · exact ⟨by simp, by simp, by simp⟩
    · exact ⟨by simp, by simp, by simp⟩
  · unfold Sp.tellC
    rw [if_neg (by omega), if_neg (by omega), if_neg (by omega), if_neg (by omega), if_pos hp]
    exact ⟨by simp, by simp, by simp⟩
  · unfold Sp.tellC
    rw [if_neg (by omega), if_neg (by omega), if_neg (by omega), if_neg (by omega), if_neg (by omega), if_pos hp]
    split
    · exact up_free (t := .fin (Sp.finR 132)) (by simp [ThUp, Sp.finR]) (by simp)
    · exact up_free (t := .fin ⟨0, 0, mp.p, mp.r, false⟩) (by simp [ThUp]) (by simp)
  · unfold Sp.tellC
    rw [if_neg (by omega), if_neg (by omega), if_neg (by omega), if_neg (by omega), if_neg (by omega), if_neg (by omega), if_pos hp]
    split
    · exact up_free (t := .fin (Sp.finR 132)) (by simp [ThUp, Sp.finR]) (by simp)
    · exact up_free (t := .fin (Sp.finR 131)) (by simp [ThUp, Sp.finR]) (by simp)
  · unfold Sp.tellC
    rw [if_neg (by omega), if_neg (by omega), if_neg (by omega), if_neg (by omega), if_neg (by omega), if_neg (by omega), if_neg (by omega), if_pos hp]
    exact up_run (l3 hp) (i4 hp)
  · unfold Sp.tellC
    rw [if_neg (by omega), if_neg (by omega), if_neg (by omega), if_neg (by omega), if_neg (by omega), if_neg (by omega), if_neg (by omega), if_neg (by omega)]
    exact ⟨l1, l3, l4⟩
def InN (n : Int) : IS → Prop
  | .seek _ _ _ => n = 0
  | .splice lv cf mp _ => cf.wl = (lv : Int) ∧ (lv = 0 → Low mp n) ∧ (0 < lv → Up mp)
  | .walk _ _ _ => True
  | .join => True
  | .over e => e = 100 ∨ e = 121 → n = 0
theorem in_spliceI {c : IC} {lv : Nat} {fr : Rf} {k n : Int} (h : lv = 0 → n = 0) : InN n (spliceI c lv fr k) :=
  ⟨rfl, fun g => ⟨fun _ => h g, by simp [Sp.m0], by simp [Sp.m0], by simp [Sp.m0]⟩, fun _ => ⟨by simp [Sp.m0], by simp [Sp.m0], by simp [Sp.m0]⟩⟩
theorem in_splicedI {c : IC} {lv : Nat} {k e n : Int} (h0 : lv = 0 → Bad3 e → n = 0) (h1 : 0 < lv → e ≠ 100 ∧ e ≠ 121) : InN n (splicedI c lv k e) := by
  unfold splicedI upI
  split
  · split <;> trivial
  · split
    · rename_i he
      split
      · rename_i hl
        have hn := h0 hl (.inr (.inr he))
        split
        · exact fun _ => hn
        · exact hn
      · rename_i hl
        exact in_spliceI fun g => absurd g hl
    · intro g
      by_cases hl : lv = 0
      · exact h0 hl (by rcases g with g | g; exact .inl g; exact .inr (.inl g))
      · have := h1 (by omega)
        rcases g with g | g
        · exact absurd g this.1
        · exact absurd g this.2
theorem in_settle {c : IC} {lv : Nat} {cf : Sp.Cf} {k n : Int} {mp : Sp.Mm} (hw : cf.wl = (lv : Int)) (h0 : lv = 0 → Low mp n) (h1 : 0 < lv → Up mp) : InN n (settleI c lv cf k mp) := by
  unfold settleI
  split
  · rename_i h10
    exact in_splicedI (fun g b => (h0 g).2.2.2 h10 b) (fun g => (h1 g).2.2 h10)
  · exact ⟨hw, h0, h1⟩
def cntI (m : IS) (a : Ans) (n : Int) : Int :=
  match m with
  | .splice _ _ mp _ => cnt' mp a n
  | _ => n
theorem in_tell {c : IC} {N : Nat} {m : IS} {n : Int} (hi : InvI c N m) (h : InN n m) (a : Ans) (xo : Option Rf) : InN (cntI m a n) (tellI c a xo m) := by
  cases m with
  | seek cf ms k =>
    have hn : n = 0 := h
    show InN n (soughtI c k cf (tellF cf ms a xo))
    unfold soughtI
    split
    · split
      · exact in_spliceI fun _ => hn
      · exact fun _ => hn
    · exact hn
  | splice lv cf mp k =>
    obtain ⟨i1, i2, i3, i4, i5⟩ := hi
    obtain ⟨w, h0, h1⟩ := h
    show InN (cnt' mp a n) (settleI c lv cf k (Sp.tellC cf mp a))
    exact in_settle w (fun g => low_tell i1 (h0 g) a i2) (fun g => up_tell i1 (by omega) (h1 g) a i2)
  | walk lv on k =>
    show InN n (walkedI c lv on k a)
    have hlv : 1 ≤ lv := hi.1
    unfold walkedI
    split
    · intro g; omega
    · split
      · split
        · exact in_spliceI fun g => by omega
        · trivial
      · exact in_spliceI fun g => by omega
  | join =>
    unfold tellI
    simp only []
    split
    · intro g; omega
    · intro g; omega
  | over e => exact h
theorem in_wake {m : IS} {n : Int} (h : InN n m) : InN n (wakeI m) := by
  cases m with
  | splice lv cf mp k =>
    obtain ⟨w, h0, h1⟩ := h
    refine ⟨w, fun g => ?_, fun g => ?_⟩
    · obtain ⟨l1, l2, l3, l4⟩ := h0 g
      unfold Sp.wakeC
      split
      · rename_i h9
        exact ⟨fun _ => l1 (.inr (.inr (.inr h9))), by simp, by simp, by simp⟩
      · exact ⟨l1, l2, l3, l4⟩
    · obtain ⟨l1, l3, l4⟩ := h1 g
      unfold Sp.wakeC
      split
      · exact ⟨by simp, by simp, by simp⟩
      · exact ⟨l1, l3, l4⟩
  | _ => exact h
structure Here (c : IC) (v : Value) (l : List OpA) (p j : Nat) (n : Int) (s : St) : Prop where
  ex : ∃ m, Pre c v l p j m s ∧ InN n m ∧ -(j : Int) ≤ n ∧ n ≤ j
theorem step {c : IC} {v : Value} {l : List OpA} {p j : Nat} {n : Int} {s : St} (hC : okI c) (h : Here c v l p j n s) (hj : j < 120) {o : OpA} (ho : l[j]? = some o) (rec : List Value → St → Option Cut) :
    (∃ s', l15InsertEnds.l7 std rec [v, P p, .int .i64 n, .int .i64 (j : Int)] s = some ((1, [.bool true], s') : Cut)) ∨
    ∃ n' s', l15InsertEnds.l7 std rec [v, P p, .int .i64 n, .int .i64 (j : Int)] s = rec [v, P p, .int .i64 n', .int .i64 ((j + 1 : Nat) : Int)] s' ∧ Here c v l p (j + 1) n' s' := by
  obtain ⟨m, G, hn, hn1, hn2⟩ := h.ex
  have n1 := G.next hC
  have hjl : j < l.length := (List.getElem?_eq_some_iff.1 ho).1
  have e1 : (j : Int) < l.length := by omega
  have e2 : (j : Int) < 120 := by omega
  have e5 : IntKind.i64.wrap ((j : Int) + 1) = ((j + 1 : Nat) : Int) := by rw [wrap64 (by omega) (by omega)]; omega
  have ea : IntKind.i64.wrap (n + 1) = n + 1 := wrap64 (by omega) (by omega)
  have es : IntKind.i64.wrap (n - 1) = n - 1 := wrap64 (by omega) (by omega)
  obtain ⟨b1, k1, rows1, ro1, a1, a2, a3⟩ := G.ho.at ho
  have hlen := G.ho.len
  obtain ⟨pa, bxa⟩ := G.pos j o ho
  by_cases hov : ∃ e, m = .over e
  · obtain ⟨e, rfl⟩ := hov
    left
    have hn : e = 100 ∨ e = 121 → n = 0 := hn
    rw [show nextI c (.over e) = stepC 3 zR zAsk ⟨e, 0, zR, zR, false⟩ from rfl] at n1
    refine ⟨s, ?_⟩
    rcases Classical.propComplete (e = 100) with k1' | k1'
    · have hn0 := hn (.inl (of_eq_true k1'))
      subst hn0
      simp only [l15InsertEnds.l7, l15InsertEnds.l7.p2, sy, reduceIte, Nat.reduceAdd, Nat.reduceLeDiff, Nat.reduceLT, Nat.reduceEqDiff, Int.reduceEq, Int.reduceLT, Int.reduceLE, Int.reduceNe, ly, hlen, e1, e2, n1, stepC, k1', alive_r]
    · rcases Classical.propComplete (e = 121) with k2' | k2'
      · have hn0 := hn (.inr (of_eq_true k2'))
        subst hn0
        simp only [l15InsertEnds.l7, l15InsertEnds.l7.p2, sy, reduceIte, Nat.reduceAdd, Nat.reduceLeDiff, Nat.reduceLT, Nat.reduceEqDiff, Int.reduceEq, Int.reduceLT, Int.reduceLE, Int.reduceNe, ly, hlen, e1, e2, n1, stepC, k1', k2', alive_r]
      · simp only [l15InsertEnds.l7, l15InsertEnds.l7.p2, sy, reduceIte, Nat.reduceAdd, Nat.reduceLeDiff, Nat.reduceLT, Nat.reduceEqDiff, Int.reduceEq, Int.reduceLT, Int.reduceLE, Int.reduceNe, ly, hlen, e1, e2, n1, stepC, k1', k2', alive_r]
  · right
    -- an ask of kind K
    have go : ∀ {k : Int} {T : Rf} {ak : AskP} {r : Res}, nextI c m = stepC k T ak r → k ≠ 3 → (∀ xo, InN (if k = 1 ∧ ak.k = 7 ∧ o.a.k = 1 then n + 1 else if k = 1 ∧ ak.k = 8 then n - 1 else n) (tellI c o.a xo m)) →
        ∃ n' s', l15InsertEnds.l7 std rec [v, P p, .int .i64 n, .int .i64 (j : Int)] s = rec [v, P p, .int .i64 n', .int .i64 ((j + 1 : Nat) : Int)] s' ∧ Here c v l p (j + 1) n' s' := by
      intro k T ak r hx h3 hT
      rw [hx] at n1
      cases hwk : o.wake with
      | true =>
        obtain ⟨s1, w1, w2, w3⟩ := G.wake
        exact ⟨n, s1, by simp only [l15InsertEnds.l7, l15InsertEnds.l7.p2, sy, reduceIte, Nat.reduceAdd, Nat.reduceLeDiff, Nat.reduceLT, Nat.reduceEqDiff, Int.reduceEq, Int.reduceLT, Int.reduceLE, Int.reduceNe, ly, hlen, e1, e2, n1, stepC, h3, a1, ldc_row a2, a3, hwk, w1, e5], ⟨_, w2, in_wake hn, by omega, by omega⟩⟩
      | false =>
        obtain ⟨s1, xo, w1, w2, w3, _⟩ := G.tell hC (by omega) pa
        have hT := hT xo
        rcases Classical.propComplete (k = 1) with q1 | q1
        · rcases Classical.propComplete (ak.k = 7) with q7 | q7
          · have q8 : (ak.k = 8) = False := eq_false (by have := of_eq_true q7; omega)
            rcases Classical.propComplete (o.a.k = 1) with qa | qa
            · rw [if_pos ⟨of_eq_true q1, of_eq_true q7, of_eq_true qa⟩] at hT
              exact ⟨n + 1, s1, by simp only [l15InsertEnds.l7, l15InsertEnds.l7.p1, l15InsertEnds.l7.p2, sy, reduceIte, Nat.reduceAdd, Nat.reduceLeDiff, Nat.reduceLT, Nat.reduceEqDiff, Int.reduceEq, Int.reduceLT, Int.reduceLE, Int.reduceNe, ly, hlen, e1, e2, n1, stepC, h3, a1, ldc_row a2, lda_row a2, a3, bxa, hwk, w1, q1, q7, q8, qa, ea, e5], ⟨_, w2, hT, by omega, by omega⟩⟩
            · rw [if_neg (fun g => of_eq_false qa g.2.2), if_neg (fun g => of_eq_false q8 g.2)] at hT
              exact ⟨n, s1, by simp only [l15InsertEnds.l7, l15InsertEnds.l7.p1, l15InsertEnds.l7.p2, sy, reduceIte, Nat.reduceAdd, Nat.reduceLeDiff, Nat.reduceLT, Nat.reduceEqDiff, Int.reduceEq, Int.reduceLT, Int.reduceLE, Int.reduceNe, ly, hlen, e1, e2, n1, stepC, h3, a1, ldc_row a2, lda_row a2, a3, bxa, hwk, w1, q1, q7, q8, qa, ea, e5], ⟨_, w2, hT, by omega, by omega⟩⟩
          · rw [if_neg (fun g => of_eq_false q7 g.2.1)] at hT
            rcases Classical.propComplete (ak.k = 8) with q8 | q8
            · rw [if_pos ⟨of_eq_true q1, of_eq_true q8⟩] at hT
              exact ⟨n - 1, s1, by simp only [l15InsertEnds.l7, l15InsertEnds.l7.p1, l15InsertEnds.l7.p2, sy, reduceIte, Nat.reduceAdd, Nat.reduceLeDiff, Nat.reduceLT, Nat.reduceEqDiff, Int.reduceEq, Int.reduceLT, Int.reduceLE, Int.reduceNe, ly, hlen, e1, e2, n1, stepC, h3, a1, ldc_row a2, lda_row a2, a3, bxa, hwk, w1, q1, q7, q8, es, e5], ⟨_, w2, hT, by omega, by omega⟩⟩
            · rw [if_neg (fun g => of_eq_false q8 g.2)] at hT
              exact ⟨n, s1, by simp only [l15InsertEnds.l7, l15InsertEnds.l7.p1, l15InsertEnds.l7.p2, sy, reduceIte, Nat.reduceAdd, Nat.reduceLeDiff, Nat.reduceLT, Nat.reduceEqDiff, Int.reduceEq, Int.reduceLT, Int.reduceLE, Int.reduceNe, ly, hlen, e1, e2, n1, stepC, h3, a1, ldc_row a2, lda_row a2, a3, bxa, hwk, w1, q1, q7, q8, es, e5], ⟨_, w2, hT, by omega, by omega⟩⟩
        · rw [if_neg (fun g => of_eq_false q1 g.1), if_neg (fun g => of_eq_false q1 g.1)] at hT
          exact ⟨n, s1, by simp only [l15InsertEnds.l7, l15InsertEnds.l7.p1, l15InsertEnds.l7.p2, sy, reduceIte, Nat.reduceAdd, Nat.reduceLeDiff, Nat.reduceLT, Nat.reduceEqDiff, Int.reduceEq, Int.reduceLT, Int.reduceLE, Int.reduceNe, ly, hlen, e1, e2, n1, stepC, h3, a1, ldc_row a2, lda_row a2, a3, bxa, hwk, w1, q1, e5], ⟨_, w2, hT, by omega, by omega⟩⟩
    have tl := in_tell G.inv hn o.a
    cases m with
    | seek cf ms k =>
      obtain ⟨_, _, _, _, a5, _⟩ := G.inv
      exact go (k := 1) (T := if ms.lk = true then ms.to else ms.ap) (ak := ⟨1, ms.wl, ms.wb, zR, zR, 0, 0⟩) (r := zRes) (by simp [nextI, nextC, a5]) (by decide) (fun xo => by simpa [cntI] using tl xo)
    | splice lv cf mp k =>
      obtain ⟨i1, i2, i3, i4, i5⟩ := G.inv
      have hp : mp.at' = 1 ∨ mp.at' = 2 ∨ mp.at' = 3 ∨ mp.at' = 4 ∨ mp.at' = 5 ∨ mp.at' = 6 ∨ mp.at' = 7 ∨ mp.at' = 8 ∨ mp.at' = 9 := by unfold Sp.InvM at i1; omega
      rcases hp with hp | hp | hp | hp | hp | hp | hp | hp | hp
      · exact go (k := 1) (T := mp.p) (ak := ⟨3, cf.wl, cf.wb, zR, zR, cf.oa, cf.oo⟩) (r := zRes) (by simp [nextI, Sp.nextC, hp, Sp.askC]) (by decide) (fun xo => by simpa [cntI, cnt', hp] using tl xo)
      · exact go (k := 1) (T := mp.r) (ak := ⟨1, cf.wl, cf.wb, zR, zR, 0, 0⟩) (r := zRes) (by simp [nextI, Sp.nextC, hp, Sp.askC]) (by decide) (fun xo => by simpa [cntI, cnt', hp] using tl xo)
      · exact go (k := 1) (T := cf.me) (ak := ⟨7, cf.wl, cf.wb, mp.p, mp.r, cf.oa, cf.oo⟩) (r := zRes) (by simp [nextI, Sp.nextC, hp, Sp.askC]) (by decide) (fun xo => by simpa [cntI, cnt', hp] using tl xo)
      · exact go (k := 1) (T := mp.p) (ak := ⟨5, cf.wl, cf.wb, cf.me, zR, cf.oa, cf.oo⟩) (r := zRes) (by simp [nextI, Sp.nextC, hp, Sp.askC]) (by decide) (fun xo => by simpa [cntI, cnt', hp] using tl xo)
      · exact go (k := 1) (T := mp.r) (ak := ⟨6, cf.wl, cf.wb, cf.me, zR, 0, 0⟩) (r := zRes) (by simp [nextI, Sp.nextC, hp, Sp.askC]) (by decide) (fun xo => by simpa [cntI, cnt', hp] using tl xo)
      · exact go (k := 1) (T := cf.me) (ak := ⟨4, cf.wl, cf.wb, zR, zR, cf.oa, cf.oo⟩) (r := zRes) (by simp [nextI, Sp.nextC, hp, Sp.askC]) (by decide) (fun xo => by simpa [cntI, cnt', hp] using tl xo)
      · exact go (k := 1) (T := cf.me) (ak := ⟨8, cf.wl, cf.wb, zR, zR, cf.oa, cf.oo⟩) (r := zRes) (by simp [nextI, Sp.nextC, hp, Sp.askC]) (by decide) (fun xo => by simpa [cntI, cnt', hp] using tl xo)
      · exact go (k := 1) (T := mp.p) (ak := ⟨4, cf.wl, cf.wb, zR, zR, cf.oa, cf.oo⟩) (r := zRes) (by simp [nextI, Sp.nextC, hp, Sp.askC]) (by decide) (fun xo => by simpa [cntI, cnt', hp] using tl xo)
      · exact go (k := 2) (T := zR) (ak := zAsk) (r := zRes) (by simp [nextI, Sp.nextC, hp]) (by decide) (fun xo => by simpa [cntI, cnt', hp] using tl xo)
    | walk lv on k => exact go (k := 1) (T := on) (ak := ⟨1, ((lv - 1 : Nat) : Int), bitsI c (lv - 1), zR, zR, 0, 0⟩) (r := zRes) rfl (by decide) (fun xo => by simpa [cntI] using tl xo)
    | join => exact go (k := 1) (T := c.me) (ak := ⟨10, 0, 0, zR, zR, 0, 0⟩) (r := zRes) rfl (by decide) (fun xo => by simpa [cntI] using tl xo)
    | over e => exact absurd ⟨e, rfl⟩ hov
theorem loop {c : IC} {v : Value} {l : List OpA} {p : Nat} {s : St} (hC : okI c) (h : Here c v l p 0 0 s) :
    ∃ x s', iter (l15InsertEnds.l7 std) BIG [v, P p, .int .i64 0, .int .i64 ((0 : Nat) : Int)] s = some x ∧ (x = ((0, [], s') : Cut) ∨ x = (1, [.bool true], s')) := by
  refine iter_rel (fun d xs s' => ∃ j n, Here c v l p j n s' ∧ j + d = 120 ∧ xs = [v, P p, .int .i64 n, .int .i64 (j : Int)])
    (fun y : Option Cut => ∃ x s', y = some x ∧ (x = ((0, [], s') : Cut) ∨ x = (1, [.bool true], s'))) ?_ BIG 120 _ s (by unfold BIG; omega) ⟨0, 0, h, by omega, rfl⟩
  rintro d xs s rec ⟨j, n, h, hj, rfl⟩ ih
  obtain ⟨m, G, _⟩ := h.ex
  have hlen := G.ho.len
  by_cases h1 : j < l.length
  · have e1 : (j : Int) < l.length := by omega
    cases d with
    | zero =>
      have e2 : ¬ ((j : Int) < 120) := by omega
      exact ⟨_, s, by simp only [l15InsertEnds.l7, sy, reduceIte, Nat.reduceAdd, Nat.reduceLeDiff, Nat.reduceLT, Nat.reduceEqDiff, Int.reduceEq, Int.reduceLT, Int.reduceLE, Int.reduceNe, ly, hlen, e1, e2], .inl rfl⟩
    | succ d =>
      obtain ⟨a, ha⟩ := get_some h1
      rcases step hC h (by omega) ha rec with ⟨s', g1⟩ | ⟨n', s', g1, g2⟩
      · exact ⟨_, s', g1, .inr rfl⟩
      · rw [g1]
        exact ih d _ _ (by omega) ⟨j + 1, n', g2, by omega, rfl⟩
  · have e1 : ¬ ((j : Int) < l.length) := by omega
    exact ⟨_, s, by simp only [l15InsertEnds.l7, sy, reduceIte, Nat.reduceAdd, Nat.reduceLeDiff, Nat.reduceLT, Nat.reduceEqDiff, Int.reduceEq, Int.reduceLT, Int.reduceLE, Int.reduceNe, ly, hlen, e1], .inl rfl⟩
theorem law (s : St) (us : List Value) (ha : AllRo s) (hf : ∀ b, s.n ≤ b → s.get b = none) (h : Args s [(true, [.i .i64, .i .i64, .i .i64, .i .u64, .i .i64, .i .u64, .i .i64, .i .i64, .i .u64, .i .i64, .i .u64, .i .i64, .i .i64]), (false, [.sl [.b, .i .i64, .b, .i .i64, .i .i64, .i .u64, .i .i64, .i .u64, .i .i64, .i .i64, .i .u64, .i .i64, .i .u64, .sl [.i .u8]]])] us) :
    ∃ s', l15InsertEnds.w us s = some (.bool true, s') := by
  simp only [Args, Arg] at h
  obtain ⟨_, _, rfl, ⟨_, rfl, h1⟩, v, _, rfl, h2, rfl⟩ := h
  unfold Leaf.Are Leaf.Are at h2
  obtain ⟨v', _, g1, h2, rfl⟩ := h2
  obtain rfl : v = v' := (List.cons.inj g1).1
  simp only [Leaf.Are, Leaf.Is] at h1
  obtain ⟨_, _, rfl, ⟨hh, rfl, _⟩, _, _, rfl, ⟨i1, rfl, _⟩, _, _, rfl, ⟨i2, rfl, _⟩, _, _, rfl, ⟨i3, rfl, _⟩, _, _, rfl, ⟨i4, rfl, _⟩, _, _, rfl, ⟨i5, rfl, hi5⟩, _, _, rfl, ⟨f1, rfl, _⟩, _, _, rfl, ⟨f2, rfl, _⟩, _, _, rfl, ⟨f3, rfl, _⟩, _, _, rfl, ⟨f4, rfl, _⟩, _, _, rfl, ⟨f5, rfl, hf5⟩, _, _, rfl, ⟨oa, rfl, _⟩, _, _, rfl, ⟨oo, rfl, _⟩, rfl⟩ := h1
  obtain ⟨l, hl, pos⟩ := isO_of3 h2
  have hm0 := (wf_u64 hi5).1
  have hb0 := (wf_u64 hf5).1
  have hf : Fresh s := hf
  show ∃ s', l15InsertEnds.v (.agg ⟨(⟨hh, ⟨i1, i2, i3, i4, i5⟩, ⟨f1, f2, f3, f4, f5⟩, oa, oo⟩ : IC).cs⟩) v s = some (.bool true, s')
  generalize hc : (⟨hh, ⟨i1, i2, i3, i4, i5⟩, ⟨f1, f2, f3, f4, f5⟩, oa, oo⟩ : IC) = c
  have hm0 : 0 ≤ c.me.bt := by rw [← hc]; exact hm0
  have hb0 : 0 ≤ c.st.bt := by rw [← hc]; exact hb0
  have hn1 : ∀ x : Nat, eqb [3] false false (P x) (.pointer none) = some (.bool false) := fun _ => rfl
  rcases new_i hf c hb0 hm0 with ⟨hC, s1, q1, mo⟩ | ⟨hC, s1, b, q, q1, hA, mo⟩
  · rcases new_j (mo.fresh hf) c hb0 hm0 with ⟨_, s2, q2, _⟩ | ⟨g, _⟩
    · exact ⟨s2, by simp only [l15InsertEnds.v, l15InsertEnds.t, sy, reduceIte, Nat.reduceAdd, Nat.reduceLeDiff, Nat.reduceLT, Nat.reduceEqDiff, Int.reduceEq, Int.reduceLT, Int.reduceLE, Int.reduceNe, ly, q1, q2, alive_r]⟩
    · exact absurd g hC
  · have f1 := mo.fresh hf
    have k1 : StpK [] s s1 := .more mo hf
    have H0 : Here c v l s.n 0 0 s1 := ⟨⟨_, ⟨⟨b, q, 0, hA⟩, inv_start hC, hl.stp k1 (by simp), pos, f1⟩, rfl, by simp, by simp⟩⟩
    obtain ⟨x, s', e, hx⟩ := loop hC H0
    rw [show ((0 : Nat) : Int) = 0 from rfl] at e
    rcases hx with rfl | rfl
    · exact ⟨s', by simp only [l15InsertEnds.v, l15InsertEnds.t, sy, reduceIte, Nat.reduceAdd, Nat.reduceLeDiff, Nat.reduceLT, Nat.reduceEqDiff, Int.reduceEq, Int.reduceLT, Int.reduceLE, Int.reduceNe, ly, q1, hn1, e, alive_r]⟩
    · exact ⟨s', by simp only [l15InsertEnds.v, l15InsertEnds.t, sy, reduceIte, Nat.reduceAdd, Nat.reduceLeDiff, Nat.reduceLT, Nat.reduceEqDiff, Int.reduceEq, Int.reduceLT, Int.reduceLE, Int.reduceNe, ly, q1, hn1, e, Nat.one_ne_zero]⟩
end InsertEnds
end Go.Proofs.YteafgjpbfhjbjaaGreat
