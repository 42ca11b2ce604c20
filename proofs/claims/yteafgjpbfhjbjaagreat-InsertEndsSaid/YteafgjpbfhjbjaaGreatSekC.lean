/-
  The machine of package seek as a function: what an answer makes of it, given where the wills lead.
-/
import Derived.Test.YteafgjpbfhjbjaaGreatSekB
set_option linter.unusedSimpArgs false
set_option linter.unusedVariables false
set_option maxRecDepth 100000
set_option maxHeartbeats 2000000
namespace Go.Proofs.YteafgjpbfhjbjaaGreat
open Go.Sim Go.Sim.Bt
attribute [local congr] bdc cndc itec gdc gdSc gdUc
abbrev idxW (tab : List (Wk × Rf)) (k : Wk) : Option Nat := tab.findIdx? fun e => eqW k e.1
inductive Chase (tab : List (Wk × Rf)) (wl wb : Int) : Nat → Int → Int → Rf → Option Rf → Prop
  | bad {ar an : Int} {r : Rf} : ¬ okK r.rk r.n → Chase tab wl wb 0 ar an r none
  | back {ar an : Int} {r : Rf} : okK r.rk r.n → ¬ lessK ar an r.rk r.n → Chase tab wl wb 0 ar an r none
  | here {ar an : Int} {r : Rf} : okK r.rk r.n → lessK ar an r.rk r.n → idxW tab ⟨r.id, wl, wb⟩ = none → Chase tab wl wb 0 ar an r (some r)
  | next {d : Nat} {ar an : Int} {r : Rf} {i : Nat} {e : Wk × Rf} {x : Option Rf} : okK r.rk r.n → lessK ar an r.rk r.n → idxW tab ⟨r.id, wl, wb⟩ = some i → tab[i]? = some e → Chase tab wl wb d r.rk r.n e.2 x → Chase tab wl wb (d + 1) ar an r x
theorem idx_lt {tab : List (Wk × Rf)} {k : Wk} {i : Nat} (h : idxW tab k = some i) : i < tab.length := (List.findIdx?_eq_some_iff_findIdx_eq.1 h).1
theorem chase_ex (tab : List (Wk × Rf)) (wl wb : Int) : ∀ n ar an r, cnt tab r < n → ∃ d x, Chase tab wl wb d ar an r x ∧ d ≤ cnt tab r + 1
  | 0, _, _, _, h => by omega
  | n + 1, ar, an, r, h => by
    by_cases k1 : okK r.rk r.n
    · by_cases k2 : lessK ar an r.rk r.n
      · cases hi : idxW tab ⟨r.id, wl, wb⟩ with
        | none => exact ⟨0, _, .here k1 k2 hi, by omega⟩
        | some i =>
          obtain ⟨e, he⟩ := get_some (idx_lt hi)
          by_cases k3 : lessK r.rk r.n e.2.rk e.2.n
          · have hl := cnt_lt (List.mem_of_getElem? he) k3
            obtain ⟨d, x, g1, g2⟩ := chase_ex tab wl wb n r.rk r.n e.2 (by omega)
            exact ⟨d + 1, x, .next k1 k2 hi he g1, by omega⟩
          · by_cases k4 : okK e.2.rk e.2.n
            · exact ⟨1, none, .next k1 k2 hi he (.back k4 k3), by omega⟩
            · exact ⟨1, none, .next k1 k2 hi he (.bad k4), by omega⟩
      · exact ⟨0, _, .back k1 k2, by omega⟩
    · exact ⟨0, _, .bad k1, by omega⟩
def goesF (c : Cf) (m : Mm) : Option Rf → Mm
  | none => againC c m
  | some r =>
    if lessK r.rk r.n c.tr c.tn then { m with lk := true, to := r }
    else if 0 < m.wl then { m with wl := m.wl - 1, wb := ((m.wb.toNat / 2 : Nat) : Int), lk := false }
    else { m with ov := true, res := ⟨0, 0, m.ap, r, decide (r.rk = c.tr) && decide (r.n = c.tn)⟩ }
def tellF (c : Cf) (m : Mm) (a : Ans) (x : Option Rf) : Mm :=
  if m.ov = true then m
  else if m.lk = false then
    if a.k = 1 then (if lessK m.ap.rk m.ap.n c.tr c.tn then goesF c m x else if okK a.l.rk a.l.n ∧ lessK a.l.rk a.l.n m.ap.rk m.ap.n then { m with ap := a.l } else againC c m)
    else if a.k = 3 then againC c (keepC m m.ap a.r) else againC c m
  else
    if a.k = 1 then goesF c { m with ap := m.to, lk := false } x
    else if a.k = 3 then (if 64 ≤ m.n then busy (keepC m m.to a.r) else { keepC m m.to a.r with n := m.n + 1, lk := false })
    else againC c m
def curF (m : Mm) : Rf := if m.lk = false then m.ap else m.to
theorem lkp_i {s : St} {q : Nat} {tab : List (Wk × Rf)} (h : s.get q = some (.map (tab.map enc) false)) (k : Wk) (z : Value) :
    (idxW tab k = none → lkp s [1, 1, 1] true z true (.map (some q)) k.v = some (.tuple ⟨[z, .bool false]⟩)) ∧ (∀ i e, idxW tab k = some i → tab[i]? = some e → lkp s [1, 1, 1] true z true (.map (some q)) k.v = some (.tuple ⟨[.agg ⟨e.2.cs⟩, .bool true]⟩)) := by
  constructor
  · intro hf
    unfold lkp
    rw [show ([1, 1, 1] : List Nat).length = 3 from rfl, keyS_w, if_pos rfl]
    simp only [h, find_r, bds]
    unfold idxW at hf
    rw [hf]
    rfl
  · intro i e hf he
    unfold lkp
    rw [show ([1, 1, 1] : List Nat).length = 3 from rfl, keyS_w, if_pos rfl]
    simp only [h, find_r, bds]
    unfold idxW at hf
    rw [hf]
    simp [he, enc]
theorem goes_iter {c : Cf} {m : Mm} {s : St} {b q : Nat} (h : At c m s b q) (hn : 0 ≤ m.n) {d : Nat} {ar an : Int} {r : Rf} {x : Option Rf} (hc : Chase m.tab m.wl m.wb d ar an r x) : ∀ k, d < k →
    (x = none → ∃ s', iter (kS_goes.l2 std) k [P b, .agg ⟨r.cs⟩, .agg ⟨[.int .i64 ar, .int .u64 an]⟩] s = some ((1, [], s') : Cut) ∧ At c (againC c m) s' b q ∧ Stq b q s s') ∧
    (∀ r', x = some r' → iter (kS_goes.l2 std) k [P b, .agg ⟨r.cs⟩, .agg ⟨[.int .i64 ar, .int .u64 an]⟩] s = some ((0, [P b, .agg ⟨r'.cs⟩], s) : Cut)) := by
  have hr := h.row
  obtain ⟨s2, a1, a2, a3⟩ := again_r h hn
  induction hc with
  | @bad ar an r k1 =>
    intro k hk
    obtain ⟨k, rfl⟩ : ∃ j, k = j + 1 := ⟨k - 1, by omega⟩
    have kc := kcheck_r r.rk r.n s
    simp only [k1, reduceIte] at kc
    refine ⟨fun _ => ⟨s2, ?_, a2, a3⟩, fun r' e => by cases e⟩
    rw [iter_succ]
    simp only [kS_goes.l2, sy, reduceIte, Nat.reduceAdd, Nat.reduceLeDiff, Nat.reduceLT, Nat.reduceEqDiff, Int.reduceEq, Int.reduceLT, Int.reduceLE, Int.reduceNe, ly, kc, a1]
  | @back ar an r k1 k2 =>
    intro k hk
    obtain ⟨k, rfl⟩ : ∃ j, k = j + 1 := ⟨k - 1, by omega⟩
    have kc := kcheck_r r.rk r.n s
    have l1 := less_r ar an r.rk r.n s
    simp only [k1, reduceIte] at kc
    rw [decide_eq_false k2] at l1
    refine ⟨fun _ => ⟨s2, ?_, a2, a3⟩, fun r' e => by cases e⟩
    rw [iter_succ]
    simp only [kS_goes.l2, sy, reduceIte, Nat.reduceAdd, Nat.reduceLeDiff, Nat.reduceLT, Nat.reduceEqDiff, Int.reduceEq, Int.reduceLT, Int.reduceLE, Int.reduceNe, ly, kc, l1, a1]
  | @here ar an r k1 k2 hi =>
    intro k hk
    obtain ⟨k, rfl⟩ : ∃ j, k = j + 1 := ⟨k - 1, by omega⟩
    have kc := kcheck_r r.rk r.n s
    have l1 := less_r ar an r.rk r.n s
    simp only [k1, reduceIte] at kc
    rw [decide_eq_true k2] at l1
    have e := (lkp_i h.map ⟨r.id, m.wl, m.wb⟩ (.agg ⟨zR.cs⟩)).1 hi
    refine ⟨(fun e => by cases e), fun r' e' => ?_⟩
    cases e'
    rw [iter_succ]
    simp only [kS_goes.l2, sy, reduceIte, Nat.reduceAdd, Nat.reduceLeDiff, Nat.reduceLT, Nat.reduceEqDiff, Int.reduceEq, Int.reduceLT, Int.reduceLE, Int.reduceNe, ly, kc, l1, ldc_row hr, lda_row hr, e]
  | @next d ar an r i e x k1 k2 hi he hc ih =>
    intro k hk
    obtain ⟨k, rfl⟩ : ∃ j, k = j + 1 := ⟨k - 1, by omega⟩
    have kc := kcheck_r r.rk r.n s
    have l1 := less_r ar an r.rk r.n s
    simp only [k1, reduceIte] at kc
    rw [decide_eq_true k2] at l1
    have e3 := (lkp_i h.map ⟨r.id, m.wl, m.wb⟩ (.agg ⟨zR.cs⟩)).2 i e hi he
    have fin : iter (kS_goes.l2 std) (k + 1) [P b, .agg ⟨r.cs⟩, .agg ⟨[.int .i64 ar, .int .u64 an]⟩] s = iter (kS_goes.l2 std) k [P b, .agg ⟨e.2.cs⟩, .agg ⟨[.int .i64 r.rk, .int .u64 r.n]⟩] s := by
      rw [iter_succ]
      simp only [kS_goes.l2, sy, reduceIte, Nat.reduceAdd, Nat.reduceLeDiff, Nat.reduceLT, Nat.reduceEqDiff, Int.reduceEq, Int.reduceLT, Int.reduceLE, Int.reduceNe, ly, kc, l1, ldc_row hr, lda_row hr, e3]
    rw [fin]
    exact ih k (by omega)
theorem half_ok {n d : Nat} (h : 0 < n) : d / 2 ^ (n - (n - 1)) = d / 2 := by rw [show n - (n - 1) = 1 by omega]
theorem goes_f {c : Cf} {m : Mm} {s : St} {b q : Nat} (h : At c m s b q) (hn : 0 ≤ m.n) (hw : okV m.wl m.wb) {r : Rf} {D : Nat} {x : Option Rf} (hc : Chase m.tab m.wl m.wb D m.ap.rk m.ap.n r x) (hD : D < BIG) :
    ∃ s', kS_goes.v (P b) (.agg ⟨r.cs⟩) s = some (unit', s') ∧ At c (goesF c m x) s' b q ∧ Stq b q s s' := by
  have hr := h.row
  obtain ⟨gn, gs⟩ := goes_iter h hn hc BIG hD
  cases x with
  | none =>
    obtain ⟨s', e, h1, h2⟩ := gn rfl
    refine ⟨s', ?_, h1, h2⟩
    simp only [kS_goes.v, kS_goes.t, sy, reduceIte, Nat.reduceAdd, Nat.reduceLeDiff, Nat.reduceLT, Nat.reduceEqDiff, Int.reduceEq, Int.reduceLT, Int.reduceLE, Int.reduceNe, ly, lda_row hr, e, Nat.one_ne_zero]
  | some r' =>
    have e := gs r' rfl
    have l1 := less_r r'.rk r'.n c.tr c.tn s
    by_cases k1 : lessK r'.rk r'.n c.tr c.tn
    · rw [decide_eq_true k1] at l1
      refine ⟨Put s b (urow c { m with lk := true, to := r' } q), ?_, by rw [show goesF c m (some r') = { m with lk := true, to := r' } by simp only [goesF, if_pos k1]]; exact h.put rfl, .putb⟩
      simp only [kS_goes.v, kS_goes.t, sy, reduceIte, Nat.reduceAdd, Nat.reduceLeDiff, Nat.reduceLT, Nat.reduceEqDiff, Int.reduceEq, Int.reduceLT, Int.reduceLE, Int.reduceNe, ly, lda_row hr, e, l1, stv_row hr, stv_put hr]
    · rw [decide_eq_false k1] at l1
      by_cases k2 : 0 < m.wl
      · obtain ⟨n, d, e1, e2, g1, g2⟩ := id hw
        have hi : n - 1 ≤ n := by omega
        have pf : vec_Prefix.r (.agg ⟨[.int .i64 m.wl, .int .u64 m.wb]⟩) (.int .i64 ((n - 1 : Nat) : Int)) s = some (T2 (VV (n - 1) (d / 2 ^ (n - (n - 1)))) 0) := by
          rw [e1, e2]; exact Prefix_ok s g1 g2 hi
        have e3 : IntKind.i64.wrap (m.wl - 1) = ((n - 1 : Nat) : Int) := by rw [wrap64 (by omega) (by omega)]; omega
        have e6 : d / 2 ^ (n - (n - 1)) = m.wb.toNat / 2 := by rw [half_ok (by omega), e2]; rfl
        rw [e6] at pf
        refine ⟨Put s b (urow c { m with wl := m.wl - 1, wb := ((m.wb.toNat / 2 : Nat) : Int), lk := false } q), ?_, by rw [show goesF c m (some r') = { m with wl := m.wl - 1, wb := ((m.wb.toNat / 2 : Nat) : Int), lk := false } by simp only [goesF, if_neg k1, if_pos k2]]; exact h.put rfl, .putb⟩
        have e4 : ((n - 1 : Nat) : Int) = m.wl - 1 := by omega
        simp only [e4] at pf e3
        simp only [kS_goes.v, kS_goes.t, kS_goes.t.p1, sy, reduceIte, Nat.reduceAdd, Nat.reduceLeDiff, Nat.reduceLT, Nat.reduceEqDiff, Int.reduceEq, Int.reduceLT, Int.reduceLE, Int.reduceNe, ly, ldc_row hr, lda_row hr, e, l1, k2, e3, pf, e4, stv_row hr, stv_put hr]
      · rcases Classical.propComplete (r'.rk = c.tr) with k3 | k3
        · rcases Classical.propComplete (r'.n = c.tn) with k4 | k4
          · refine ⟨Put s b (urow c { m with ov := true, res := ⟨0, 0, m.ap, r', true⟩ } q), ?_, by rw [show goesF c m (some r') = { m with ov := true, res := ⟨0, 0, m.ap, r', true⟩ } by simp only [goesF, if_neg k1, if_neg k2, k3, k4, sy, reduceIte, Nat.reduceAdd, Nat.reduceLeDiff, Nat.reduceLT, Nat.reduceEqDiff, Int.reduceEq, Int.reduceLT, Int.reduceLE, Int.reduceNe]]; exact h.put rfl, .putb⟩
            simp only [kS_goes.v, kS_goes.t, kS_goes.t.p1, sy, reduceIte, Nat.reduceAdd, Nat.reduceLeDiff, Nat.reduceLT, Nat.reduceEqDiff, Int.reduceEq, Int.reduceLT, Int.reduceLE, Int.reduceNe, ly, ldc_row hr, lda_row hr, e, l1, k2, k3, k4, stv_row hr, stv_put hr]
          · refine ⟨Put s b (urow c { m with ov := true, res := ⟨0, 0, m.ap, r', false⟩ } q), ?_, by rw [show goesF c m (some r') = { m with ov := true, res := ⟨0, 0, m.ap, r', false⟩ } by simp only [goesF, if_neg k1, if_neg k2, k3, k4, sy, reduceIte, Nat.reduceAdd, Nat.reduceLeDiff, Nat.reduceLT, Nat.reduceEqDiff, Int.reduceEq, Int.reduceLT, Int.reduceLE, Int.reduceNe]]; exact h.put rfl, .putb⟩
            simp only [kS_goes.v, kS_goes.t, kS_goes.t.p1, sy, reduceIte, Nat.reduceAdd, Nat.reduceLeDiff, Nat.reduceLT, Nat.reduceEqDiff, Int.reduceEq, Int.reduceLT, Int.reduceLE, Int.reduceNe, ly, ldc_row hr, lda_row hr, e, l1, k2, k3, k4, stv_row hr, stv_put hr]
        · rcases Classical.propComplete (r'.n = c.tn) with k4 | k4
          · refine ⟨Put s b (urow c { m with ov := true, res := ⟨0, 0, m.ap, r', false⟩ } q), ?_, by rw [show goesF c m (some r') = { m with ov := true, res := ⟨0, 0, m.ap, r', false⟩ } by simp only [goesF, if_neg k1, if_neg k2, k3, k4, sy, reduceIte, Nat.reduceAdd, Nat.reduceLeDiff, Nat.reduceLT, Nat.reduceEqDiff, Int.reduceEq, Int.reduceLT, Int.reduceLE, Int.reduceNe]]; exact h.put rfl, .putb⟩
            simp only [kS_goes.v, kS_goes.t, kS_goes.t.p1, sy, reduceIte, Nat.reduceAdd, Nat.reduceLeDiff, Nat.reduceLT, Nat.reduceEqDiff, Int.reduceEq, Int.reduceLT, Int.reduceLE, Int.reduceNe, ly, ldc_row hr, lda_row hr, e, l1, k2, k3, k4, stv_row hr, stv_put hr]
          · refine ⟨Put s b (urow c { m with ov := true, res := ⟨0, 0, m.ap, r', false⟩ } q), ?_, by rw [show goesF c m (some r') = { m with ov := true, res := ⟨0, 0, m.ap, r', false⟩ } by simp only [goesF, if_neg k1, if_neg k2, k3, k4, sy, reduceIte, Nat.reduceAdd, Nat.reduceLeDiff, Nat.reduceLT, Nat.reduceEqDiff, Int.reduceEq, Int.reduceLT, Int.reduceLE, Int.reduceNe]]; exact h.put rfl, .putb⟩
            simp only [kS_goes.v, kS_goes.t, kS_goes.t.p1, sy, reduceIte, Nat.reduceAdd, Nat.reduceLeDiff, Nat.reduceLT, Nat.reduceEqDiff, Int.reduceEq, Int.reduceLT, Int.reduceLE, Int.reduceNe, ly, ldc_row hr, lda_row hr, e, l1, k2, k3, k4, stv_row hr, stv_put hr]
theorem tell_f {c : Cf} {m : Mm} {s : St} {b q : Nat} (h : At c m s b q) (hn : 0 ≤ m.n) (hw : okV m.wl m.wb) (a : Ans) {D : Nat} {x : Option Rf} (hc : Chase m.tab m.wl m.wb D (curF m).rk (curF m).n a.r x) (hD : D < BIG) :
    ∃ s', kS_Tell.v (P b) (.agg ⟨a.cs⟩) s = some (unit', s') ∧ At c (tellF c m a x) s' b q ∧ Stq b q s s' := by
  have i := is_r h
  have hr := h.row
  cases ho : m.ov with
  | true => exact ⟨s, by simp only [kS_Tell.v, kS_Tell.t, sy, reduceIte, Nat.reduceAdd, Nat.reduceLeDiff, Nat.reduceLT, Nat.reduceEqDiff, Int.reduceEq, Int.reduceLT, Int.reduceLE, Int.reduceNe, ly, ldc_row hr, i, ho], by rw [show tellF c m a x = m by simp only [tellF, ho, if_true]]; exact h, .refl b q s⟩
  | false =>
    cases hk : m.lk with
    | false =>
      rcases Classical.propComplete (a.k = 1) with k1 | k1
      · have l1 := less_r m.ap.rk m.ap.n c.tr c.tn s
        by_cases k2 : lessK m.ap.rk m.ap.n c.tr c.tn
        · rw [decide_eq_true k2] at l1
          obtain ⟨s', e, g1, g3⟩ := goes_f h hn hw (by rw [show curF m = m.ap by simp [curF, hk]] at hc; exact hc) hD
          refine ⟨s', ?_, by rw [show tellF c m a x = goesF c m x by simp only [tellF, ho, hk, k1, if_pos k2, sy, reduceIte, Nat.reduceAdd, Nat.reduceLeDiff, Nat.reduceLT, Nat.reduceEqDiff, Int.reduceEq, Int.reduceLT, Int.reduceLE, Int.reduceNe]]; exact g1, g3⟩
          simp only [kS_Tell.v, kS_Tell.t, kS_stood.v, kS_stood.t, sy, reduceIte, Nat.reduceAdd, Nat.reduceLeDiff, Nat.reduceLT, Nat.reduceEqDiff, Int.reduceEq, Int.reduceLT, Int.reduceLE, Int.reduceNe, ly, ldc_row hr, lda_row hr, i, ho, hk, k1, l1, e]
        · rw [decide_eq_false k2] at l1
          have kc := kcheck_r a.l.rk a.l.n s
          have l2 := less_r a.l.rk a.l.n m.ap.rk m.ap.n s
          obtain ⟨s2, a1, a2, a3⟩ := again_r h hn
          by_cases k3 : okK a.l.rk a.l.n
          · simp only [k3, reduceIte] at kc
            by_cases k4 : lessK a.l.rk a.l.n m.ap.rk m.ap.n
            · rw [decide_eq_true k4] at l2
              refine ⟨Put s b (urow c { m with ap := a.l } q), ?_, by rw [show tellF c m a x = { m with ap := a.l } by simp only [tellF, ho, hk, k1, if_neg k2, k3, k4, sy, reduceIte, Nat.reduceAdd, Nat.reduceLeDiff, Nat.reduceLT, Nat.reduceEqDiff, Int.reduceEq, Int.reduceLT, Int.reduceLE, Int.reduceNe]]; exact h.put rfl, .putb⟩
              simp only [kS_Tell.v, kS_Tell.t, kS_stood.v, kS_stood.t, sy, reduceIte, Nat.reduceAdd, Nat.reduceLeDiff, Nat.reduceLT, Nat.reduceEqDiff, Int.reduceEq, Int.reduceLT, Int.reduceLE, Int.reduceNe, ly, ldc_row hr, lda_row hr, i, ho, hk, k1, l1, kc, l2, stv_row hr]
            · rw [decide_eq_false k4] at l2
              refine ⟨s2, ?_, by rw [show tellF c m a x = againC c m by simp only [tellF, ho, hk, k1, if_neg k2, k3, k4, sy, reduceIte, Nat.reduceAdd, Nat.reduceLeDiff, Nat.reduceLT, Nat.reduceEqDiff, Int.reduceEq, Int.reduceLT, Int.reduceLE, Int.reduceNe]]; exact a2, a3⟩
              simp only [kS_Tell.v, kS_Tell.t, kS_stood.v, kS_stood.t, sy, reduceIte, Nat.reduceAdd, Nat.reduceLeDiff, Nat.reduceLT, Nat.reduceEqDiff, Int.reduceEq, Int.reduceLT, Int.reduceLE, Int.reduceNe, ly, ldc_row hr, lda_row hr, i, ho, hk, k1, l1, kc, l2, a1]
          · simp only [k3, reduceIte] at kc
            refine ⟨s2, ?_, by rw [show tellF c m a x = againC c m by simp only [tellF, ho, hk, k1, if_neg k2, k3, sy, reduceIte, Nat.reduceAdd, Nat.reduceLeDiff, Nat.reduceLT, Nat.reduceEqDiff, Int.reduceEq, Int.reduceLT, Int.reduceLE, Int.reduceNe]]; exact a2, a3⟩
            simp only [kS_Tell.v, kS_Tell.t, kS_stood.v, kS_stood.t, sy, reduceIte, Nat.reduceAdd, Nat.reduceLeDiff, Nat.reduceLT, Nat.reduceEqDiff, Int.reduceEq, Int.reduceLT, Int.reduceLE, Int.reduceNe, ly, ldc_row hr, lda_row hr, i, ho, hk, k1, l1, kc, a1]
      · rcases Classical.propComplete (a.k = 3) with k3 | k3
        · obtain ⟨s1, e1, h1, st1⟩ := keep_r h m.ap a
          obtain ⟨s2, e2, h2, st2⟩ := again_r h1 hn
          refine ⟨s2, ?_, by rw [show tellF c m a x = againC c (keepC m m.ap a.r) by simp only [tellF, ho, hk, k1, k3, sy, reduceIte, Nat.reduceAdd, Nat.reduceLeDiff, Nat.reduceLT, Nat.reduceEqDiff, Int.reduceEq, Int.reduceLT, Int.reduceLE, Int.reduceNe]]; exact h2, st1.trans st2⟩
          simp only [kS_Tell.v, kS_Tell.t, kS_stood.v, kS_stood.t, sy, reduceIte, Nat.reduceAdd, Nat.reduceLeDiff, Nat.reduceLT, Nat.reduceEqDiff, Int.reduceEq, Int.reduceLT, Int.reduceLE, Int.reduceNe, ly, ldc_row hr, lda_row hr, i, ho, hk, k1, k3, e1, e2]
        · obtain ⟨s2, e2, h2, st2⟩ := again_r h hn
          refine ⟨s2, ?_, by rw [show tellF c m a x = againC c m by simp only [tellF, ho, hk, k1, k3, sy, reduceIte, Nat.reduceAdd, Nat.reduceLeDiff, Nat.reduceLT, Nat.reduceEqDiff, Int.reduceEq, Int.reduceLT, Int.reduceLE, Int.reduceNe, Bool.true_eq_false]]; exact h2, st2⟩
          simp only [kS_Tell.v, kS_Tell.t, kS_stood.v, kS_stood.t, sy, reduceIte, Nat.reduceAdd, Nat.reduceLeDiff, Nat.reduceLT, Nat.reduceEqDiff, Int.reduceEq, Int.reduceLT, Int.reduceLE, Int.reduceNe, ly, ldc_row hr, lda_row hr, i, ho, hk, k1, k3, e2]
    | true =>
      rcases Classical.propComplete (a.k = 1) with k1 | k1
      · obtain ⟨sA, hsA⟩ : ∃ s1, s1 = Put s b (urow c { m with ap := m.to } q) := ⟨_, rfl⟩
        have eA : stv s 5 (.pointer (some ⟨b, 0, some 9⟩)) (.agg ⟨m.to.cs⟩) = some sA := by
          rw [hsA]; simp only [stv_row hr, sy, reduceIte, Nat.reduceAdd, Nat.reduceLeDiff, Nat.reduceLT, Nat.reduceEqDiff, Int.reduceEq, Int.reduceLT, Int.reduceLE, Int.reduceNe, ly]
        have hA : At c { m with ap := m.to } sA b q := by rw [hsA]; exact h.put rfl
        have hrA := hA.row
        obtain ⟨s1, hs1⟩ : ∃ s1, s1 = Put sA b (urow c { m with ap := m.to, lk := false } q) := ⟨_, rfl⟩
        have eB : stv sA 1 (.pointer (some ⟨b, 0, some 16⟩)) (.bool false) = some s1 := by
          rw [hs1]; simp only [stv_row hrA, sy, reduceIte, Nat.reduceAdd, Nat.reduceLeDiff, Nat.reduceLT, Nat.reduceEqDiff, Int.reduceEq, Int.reduceLT, Int.reduceLE, Int.reduceNe, ly]
        have h1 : At c { m with ap := m.to, lk := false } s1 b q := by rw [hs1]; exact hA.put rfl
        have st1 : Stq b q s s1 := by rw [hs1, hsA]; exact Stq.putb.trans .putb
        obtain ⟨s', e, g1, g3⟩ := goes_f h1 hn hw (by rw [show curF m = m.to by simp [curF, hk]] at hc; exact hc) hD
        refine ⟨s', ?_, by rw [show tellF c m a x = goesF c { m with ap := m.to, lk := false } x by simp only [tellF, ho, hk, k1, sy, reduceIte, Nat.reduceAdd, Nat.reduceLeDiff, Nat.reduceLT, Nat.reduceEqDiff, Int.reduceEq, Int.reduceLT, Int.reduceLE, Int.reduceNe, Bool.true_eq_false]]; exact g1, st1.trans g3⟩
        simp only [kS_Tell.v, kS_Tell.t, kS_looked.v, kS_looked.t, sy, reduceIte, Nat.reduceAdd, Nat.reduceLeDiff, Nat.reduceLT, Nat.reduceEqDiff, Int.reduceEq, Int.reduceLT, Int.reduceLE, Int.reduceNe, ly, ldc_row hr, lda_row hr, i, ho, hk, k1, eA, eB, e]
      · rcases Classical.propComplete (a.k = 3) with k3 | k3
        · obtain ⟨s1, e1, h1, st1⟩ := keep_r h m.to a
          rcases counts_r h1 hn with ⟨g1, e2⟩ | ⟨g1, e2⟩
          · have g1' : 64 ≤ m.n := g1
            refine ⟨Put s1 b (urow c (busy { m with tab := upd m.tab ⟨m.to.id, m.wl, m.wb⟩ a.r }) q), ?_, by rw [show tellF c m a x = busy (keepC m m.to a.r) by simp only [tellF, ho, hk, k1, k3, if_pos g1', sy, reduceIte, Nat.reduceAdd, Nat.reduceLeDiff, Nat.reduceLT, Nat.reduceEqDiff, Int.reduceEq, Int.reduceLT, Int.reduceLE, Int.reduceNe, Bool.true_eq_false]]; exact h1.put rfl, st1.trans .putb⟩
            simp only [kS_Tell.v, kS_Tell.t, kS_looked.v, kS_looked.t, sy, reduceIte, Nat.reduceAdd, Nat.reduceLeDiff, Nat.reduceLT, Nat.reduceEqDiff, Int.reduceEq, Int.reduceLT, Int.reduceLE, Int.reduceNe, ly, ldc_row hr, lda_row hr, i, ho, hk, k1, k3, e1, e2, keepC, busy]
          · have hr1 := h1.row
            have g1' : ¬ 64 ≤ m.n := by have : m.n < 64 := g1; omega
            refine ⟨Put s1 b (urow c { m with tab := upd m.tab ⟨m.to.id, m.wl, m.wb⟩ a.r, n := m.n + 1, lk := false } q), ?_, by rw [show tellF c m a x = { keepC m m.to a.r with n := m.n + 1, lk := false } by simp only [tellF, ho, hk, k1, k3, if_neg g1', sy, reduceIte, Nat.reduceAdd, Nat.reduceLeDiff, Nat.reduceLT, Nat.reduceEqDiff, Int.reduceEq, Int.reduceLT, Int.reduceLE, Int.reduceNe, Bool.true_eq_false]]; exact h1.put rfl, st1.trans .putb⟩
            simp only [kS_Tell.v, kS_Tell.t, kS_looked.v, kS_looked.t, sy, reduceIte, Nat.reduceAdd, Nat.reduceLeDiff, Nat.reduceLT, Nat.reduceEqDiff, Int.reduceEq, Int.reduceLT, Int.reduceLE, Int.reduceNe, ly, ldc_row hr, lda_row hr, i, ho, hk, k1, k3, e1, e2, stv_put hr1, keepC]
        · obtain ⟨s2, e2, h2, st2⟩ := again_r h hn
          refine ⟨s2, ?_, by rw [show tellF c m a x = againC c m by simp only [tellF, ho, hk, k1, k3, sy, reduceIte, Nat.reduceAdd, Nat.reduceLeDiff, Nat.reduceLT, Nat.reduceEqDiff, Int.reduceEq, Int.reduceLT, Int.reduceLE, Int.reduceNe, Bool.true_eq_false]]; exact h2, st2⟩
          simp only [kS_Tell.v, kS_Tell.t, kS_looked.v, kS_looked.t, sy, reduceIte, Nat.reduceAdd, Nat.reduceLeDiff, Nat.reduceLT, Nat.reduceEqDiff, Int.reduceEq, Int.reduceLT, Int.reduceLE, Int.reduceNe, ly, ldc_row hr, lda_row hr, i, ho, hk, k1, k3, e2]
end Go.Proofs.YteafgjpbfhjbjaaGreat
