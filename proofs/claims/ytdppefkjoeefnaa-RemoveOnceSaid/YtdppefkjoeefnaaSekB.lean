/-
  The machine of package seek: how it goes right, and what an answer makes of it.
-/
import Derived.Test.YtdppefkjoeefnaaSekA
set_option linter.unusedSimpArgs false
set_option linter.unusedVariables false
set_option maxRecDepth 100000
set_option maxHeartbeats 2000000
namespace Go.Proofs.Ytdppefkjoeefnaa
open Go.Sim Go.Sim.Bt
attribute [local congr] bdc cndc itec gdc gdSc gdUc

theorem lessK_trans {a b c d e f : Int} (h : lessK a b c d) (g : lessK c d e f) : lessK a b e f := by unfold lessK at *; omega
theorem lessK_irr {a b : Int} : ¬ lessK a b a b := by unfold lessK; omega
theorem filter_lt {α : Type} (p p' : α → Bool) : ∀ l : List α, (∀ x ∈ l, p' x = true → p x = true) → (∃ x ∈ l, p x = true ∧ p' x = false) → (l.filter p').length < (l.filter p).length
  | [], _, h => by obtain ⟨x, hx, _⟩ := h; cases hx
  | a :: l, hs, h => by
    have hle : (l.filter p').length ≤ (l.filter p).length := by
      clear h
      induction l with
      | nil => simp
      | cons b l ih =>
        have ih := ih (fun x hx => hs x (by
          rcases List.mem_cons.1 hx with g | g
          · exact g ▸ List.mem_cons_self ..
          · exact List.mem_cons_of_mem _ (List.mem_cons_of_mem _ g)))
        have hb := hs b (List.mem_cons_of_mem _ (List.mem_cons_self ..))
        cases h1 : p' b
        · cases h2 : p b <;> simp [h1, h2] <;> omega
        · simp [h1, hb h1]; omega
    by_cases ha : p a = true ∧ p' a = false
    · simp [ha.1, ha.2]; omega
    · obtain ⟨x, hx, h1, h2⟩ := h
      have hx' : x ∈ l := by
        rcases List.mem_cons.1 hx with g | g
        · subst g; exact absurd ⟨h1, h2⟩ ha
        · exact g
      have ih := filter_lt p p' l (fun y hy => hs y (List.mem_cons_of_mem _ hy)) ⟨x, hx', h1, h2⟩
      have hb := hs a (List.mem_cons_self ..)
      cases h3 : p' a
      · cases h4 : p a
        · simp [h3, h4]; omega
        · exact absurd ⟨h4, h3⟩ ha
      · simp [h3, hb h3]; omega
def above (r : Rf) (e : Wk × Rf) : Bool := decide (lessK r.rk r.n e.2.rk e.2.n)
def cnt (tab : List (Wk × Rf)) (r : Rf) : Nat := (tab.filter (above r)).length
theorem cnt_lt {tab : List (Wk × Rf)} {r : Rf} {e : Wk × Rf} (he : e ∈ tab) (h : lessK r.rk r.n e.2.rk e.2.n) : cnt tab e.2 < cnt tab r :=
  filter_lt _ _ tab (fun x _ hx => decide_eq_true (lessK_trans h (of_decide_eq_true hx))) ⟨e, he, decide_eq_true h, decide_eq_false lessK_irr⟩
theorem lkp_r {s : St} {q : Nat} {tab : List (Wk × Rf)} (h : s.get q = some (.map (tab.map enc) false)) (k : Wk) (z : Value) :
    lkp s [1, 1, 1] true z true (.map (some q)) k.v = some (.tuple ⟨[z, .bool false]⟩) ∨ ∃ e ∈ tab, lkp s [1, 1, 1] true z true (.map (some q)) k.v = some (.tuple ⟨[.agg ⟨e.2.cs⟩, .bool true]⟩) := by
  unfold lkp
  rw [show ([1, 1, 1] : List Nat).length = 3 from rfl, keyS_w, if_pos rfl]
  simp only [h, find_r, bds]
  cases hf : tab.findIdx? fun e => eqW k e.1 with
  | none => left; rfl
  | some i =>
    right
    have hi : i < tab.length := by
      have := List.findIdx?_eq_some_iff_findIdx_eq.1 hf
      exact this.1
    obtain ⟨e, he⟩ := get_some hi
    refine ⟨e, List.mem_of_getElem? he, ?_⟩
    simp [he, enc]

def tgt (c : Cf) (r : Rf) : Prop := lessK r.rk r.n c.tr c.tn
instance (c : Cf) (r : Rf) : Decidable (tgt c r) := by unfold tgt; infer_instance

theorem goes_loop {c : Cf} {m : Mm} {s : St} {b q : Nat} (h : At c m s b q) (hn : 0 ≤ m.n) (hs : m.tab.length ≤ 4611686018427387000) (r : Rf) :
    (∃ s', iter (seek_Seek_goes.l2 std) BIG [P b, .agg ⟨r.cs⟩, .agg ⟨[.int .i64 m.ap.rk, .int .u64 m.ap.n]⟩] s = some ((1, [], s') : Cut) ∧ At c (againC c m) s' b q ∧ Stq b q s s') ∨
    (∃ r' : Rf, iter (seek_Seek_goes.l2 std) BIG [P b, .agg ⟨r.cs⟩, .agg ⟨[.int .i64 m.ap.rk, .int .u64 m.ap.n]⟩] s = some ((0, [P b, .agg ⟨r'.cs⟩], s) : Cut) ∧ lessK m.ap.rk m.ap.n r'.rk r'.n) := by
  refine iter_rel (fun d xs s' => ∃ (r : Rf) (ar an : Int), s' = s ∧ xs = [P b, .agg ⟨r.cs⟩, .agg ⟨[.int .i64 ar, .int .u64 an]⟩] ∧ ((ar = m.ap.rk ∧ an = m.ap.n) ∨ lessK m.ap.rk m.ap.n ar an) ∧ (lessK ar an r.rk r.n → cnt m.tab r + 1 ≤ d))
    (fun y : Option Cut => (∃ s', y = some ((1, [], s') : Cut) ∧ At c (againC c m) s' b q ∧ Stq b q s s') ∨ (∃ r' : Rf, y = some ((0, [P b, .agg ⟨r'.cs⟩], s) : Cut) ∧ lessK m.ap.rk m.ap.n r'.rk r'.n)) ?_ BIG (cnt m.tab r + 1) _ s ?_ ⟨r, _, _, rfl, rfl, .inl ⟨rfl, rfl⟩, fun _ => Nat.le_refl _⟩
  · rintro d xs s' rec ⟨r, ar, an, rfl, rfl, hap, hd⟩ ih
    have kc := kcheck_r r.rk r.n s'
    have l1 := less_r ar an r.rk r.n s'
    have hr := h.row
    obtain ⟨s2, a1, a2, a3⟩ := again_r h hn
    by_cases k1 : okK r.rk r.n
    · by_cases k2 : lessK ar an r.rk r.n
      · have hlt : lessK m.ap.rk m.ap.n r.rk r.n := by
          rcases hap with ⟨g1, g2⟩ | g
          · rw [← g1, ← g2]; exact k2
          · exact lessK_trans g k2
        have hd := hd k2
        simp only [k1, reduceIte] at kc
        rw [decide_eq_true k2] at l1
        rcases lkp_r h.map ⟨r.id, m.wl, m.wb⟩ (.agg ⟨zR.cs⟩) with e | ⟨e', he, e⟩
        · right
          refine ⟨r, ?_, hlt⟩
          simp only [seek_Seek_goes.l2, sy, reduceIte, Nat.reduceAdd, Nat.reduceLeDiff, Nat.reduceLT, Nat.reduceEqDiff, Int.reduceEq, Int.reduceLT, Int.reduceLE, Int.reduceNe, ly, kc, l1, ldc_row hr, lda_row hr, e]
        · have fin : seek_Seek_goes.l2 std rec [P b, .agg ⟨r.cs⟩, .agg ⟨[.int .i64 ar, .int .u64 an]⟩] s' = rec [P b, .agg ⟨e'.2.cs⟩, .agg ⟨[.int .i64 r.rk, .int .u64 r.n]⟩] s' := by
            simp only [seek_Seek_goes.l2, sy, reduceIte, Nat.reduceAdd, Nat.reduceLeDiff, Nat.reduceLT, Nat.reduceEqDiff, Int.reduceEq, Int.reduceLT, Int.reduceLE, Int.reduceNe, ly, kc, l1, ldc_row hr, lda_row hr, e]
          rw [fin]
          exact ih (d - 1) _ _ (by omega) ⟨e'.2, r.rk, r.n, rfl, rfl, .inr hlt, fun g => by have := cnt_lt he g; omega⟩
      · left
        simp only [k1, reduceIte] at kc
        rw [decide_eq_false k2] at l1
        exact ⟨s2, by simp only [seek_Seek_goes.l2, sy, reduceIte, Nat.reduceAdd, Nat.reduceLeDiff, Nat.reduceLT, Nat.reduceEqDiff, Int.reduceEq, Int.reduceLT, Int.reduceLE, Int.reduceNe, ly, kc, l1, a1], a2, a3⟩
    · left
      simp only [k1, reduceIte] at kc
      exact ⟨s2, by simp only [seek_Seek_goes.l2, sy, reduceIte, Nat.reduceAdd, Nat.reduceLeDiff, Nat.reduceLT, Nat.reduceEqDiff, Int.reduceEq, Int.reduceLT, Int.reduceLE, Int.reduceNe, ly, kc, a1], a2, a3⟩
  · have : cnt m.tab r ≤ m.tab.length := List.length_filter_le _ _
    unfold BIG
    omega

/-- Where it goes from where it stands. -/
inductive GoesTo (c : Cf) (m : Mm) : Mm → Prop
  | again : GoesTo c m (againC c m)
  | look (r : Rf) : lessK m.ap.rk m.ap.n r.rk r.n → tgt c r → GoesTo c m { m with lk := true, to := r }
  | down (w : Int) : 0 < m.wl → okV (m.wl - 1) w → GoesTo c m { m with wl := m.wl - 1, wb := w, lk := false }
  | over (r : Rf) (f : Bool) : GoesTo c m { m with ov := true, res := ⟨0, 0, m.ap, r, f⟩ }

theorem goes_r {c : Cf} {m : Mm} {s : St} {b q : Nat} (h : At c m s b q) (hn : 0 ≤ m.n) (hs : m.tab.length ≤ 4611686018427387000) (hw : okV m.wl m.wb) (r : Rf) :
    ∃ m' s', seek_Seek_goes.v (P b) (.agg ⟨r.cs⟩) s = some (unit', s') ∧ At c m' s' b q ∧ GoesTo c m m' ∧ Stq b q s s' := by
  have hr := h.row
  rcases goes_loop h hn hs r with ⟨s', e, h1, h2⟩ | ⟨r', e, h1⟩
  · refine ⟨_, s', ?_, h1, .again, h2⟩
    simp only [seek_Seek_goes.v, seek_Seek_goes.t, sy, reduceIte, Nat.reduceAdd, Nat.reduceLeDiff, Nat.reduceLT, Nat.reduceEqDiff, Int.reduceEq, Int.reduceLT, Int.reduceLE, Int.reduceNe, ly, lda_row hr, e, Nat.one_ne_zero]
  · have l1 := less_r r'.rk r'.n c.tr c.tn s
    by_cases k1 : lessK r'.rk r'.n c.tr c.tn
    · rw [decide_eq_true k1] at l1
      refine ⟨{ m with lk := true, to := r' }, Put s b (urow c { m with lk := true, to := r' } q), ?_, h.put rfl, .look r' h1 k1, .putb⟩
      simp only [seek_Seek_goes.v, seek_Seek_goes.t, sy, reduceIte, Nat.reduceAdd, Nat.reduceLeDiff, Nat.reduceLT, Nat.reduceEqDiff, Int.reduceEq, Int.reduceLT, Int.reduceLE, Int.reduceNe, ly, lda_row hr, e, l1, stv_row hr, stv_put hr]
    · rw [decide_eq_false k1] at l1
      by_cases k2 : 0 < m.wl
      · obtain ⟨n, d, e1, e2, g1, g2⟩ := id hw
        have hi : n - 1 ≤ n := by omega
        have pf : vec_Prefix.r (.agg ⟨[.int .i64 m.wl, .int .u64 m.wb]⟩) (.int .i64 ((n - 1 : Nat) : Int)) s = some (T2 (VV (n - 1) (d / 2 ^ (n - (n - 1)))) 0) := by
          rw [e1, e2]; exact Prefix_ok s g1 g2 hi
        have e3 : IntKind.i64.wrap (m.wl - 1) = ((n - 1 : Nat) : Int) := by rw [wrap64 (by omega) (by omega)]; omega
        have okw : okV (m.wl - 1) ((d / 2 ^ (n - (n - 1)) : Nat) : Int) := by
          refine ⟨n - 1, d / 2 ^ (n - (n - 1)), by omega, rfl, by omega, ?_⟩
          rw [Nat.div_lt_iff_lt_mul (Nat.two_pow_pos _), ← Nat.pow_add, show n - 1 + (n - (n - 1)) = n by omega]
          exact g2
        refine ⟨{ m with wl := m.wl - 1, wb := ((d / 2 ^ (n - (n - 1)) : Nat) : Int), lk := false }, Put s b (urow c { m with wl := m.wl - 1, wb := ((d / 2 ^ (n - (n - 1)) : Nat) : Int), lk := false } q), ?_, h.put rfl, .down _ k2 okw, .putb⟩
        have e4 : ((n - 1 : Nat) : Int) = m.wl - 1 := by omega
        simp only [e4] at pf e3
        simp only [seek_Seek_goes.v, seek_Seek_goes.t, seek_Seek_goes.t.p1, sy, reduceIte, Nat.reduceAdd, Nat.reduceLeDiff, Nat.reduceLT, Nat.reduceEqDiff, Int.reduceEq, Int.reduceLT, Int.reduceLE, Int.reduceNe, ly, ldc_row hr, lda_row hr, e, l1, k2, e3, pf, e4, stv_row hr, stv_put hr]
      · rcases Classical.propComplete (r'.rk = c.tr) with k3 | k3
        · rcases Classical.propComplete (r'.n = c.tn) with k4 | k4
          · refine ⟨{ m with ov := true, res := ⟨0, 0, m.ap, r', true⟩ }, Put s b (urow c { m with ov := true, res := ⟨0, 0, m.ap, r', true⟩ } q), ?_, h.put rfl, .over _ _, .putb⟩
            simp only [seek_Seek_goes.v, seek_Seek_goes.t, seek_Seek_goes.t.p1, sy, reduceIte, Nat.reduceAdd, Nat.reduceLeDiff, Nat.reduceLT, Nat.reduceEqDiff, Int.reduceEq, Int.reduceLT, Int.reduceLE, Int.reduceNe, ly, ldc_row hr, lda_row hr, e, l1, k2, k3, k4, stv_row hr, stv_put hr]
          · refine ⟨{ m with ov := true, res := ⟨0, 0, m.ap, r', false⟩ }, Put s b (urow c { m with ov := true, res := ⟨0, 0, m.ap, r', false⟩ } q), ?_, h.put rfl, .over _ _, .putb⟩
            simp only [seek_Seek_goes.v, seek_Seek_goes.t, seek_Seek_goes.t.p1, sy, reduceIte, Nat.reduceAdd, Nat.reduceLeDiff, Nat.reduceLT, Nat.reduceEqDiff, Int.reduceEq, Int.reduceLT, Int.reduceLE, Int.reduceNe, ly, ldc_row hr, lda_row hr, e, l1, k2, k3, k4, stv_row hr, stv_put hr]
        · rcases Classical.propComplete (r'.n = c.tn) with k4 | k4
          · refine ⟨{ m with ov := true, res := ⟨0, 0, m.ap, r', false⟩ }, Put s b (urow c { m with ov := true, res := ⟨0, 0, m.ap, r', false⟩ } q), ?_, h.put rfl, .over _ _, .putb⟩
            simp only [seek_Seek_goes.v, seek_Seek_goes.t, seek_Seek_goes.t.p1, sy, reduceIte, Nat.reduceAdd, Nat.reduceLeDiff, Nat.reduceLT, Nat.reduceEqDiff, Int.reduceEq, Int.reduceLT, Int.reduceLE, Int.reduceNe, ly, ldc_row hr, lda_row hr, e, l1, k2, k3, k4, stv_row hr, stv_put hr]
          · refine ⟨{ m with ov := true, res := ⟨0, 0, m.ap, r', false⟩ }, Put s b (urow c { m with ov := true, res := ⟨0, 0, m.ap, r', false⟩ } q), ?_, h.put rfl, .over _ _, .putb⟩
            simp only [seek_Seek_goes.v, seek_Seek_goes.t, seek_Seek_goes.t.p1, sy, reduceIte, Nat.reduceAdd, Nat.reduceLeDiff, Nat.reduceLT, Nat.reduceEqDiff, Int.reduceEq, Int.reduceLT, Int.reduceLE, Int.reduceNe, ly, ldc_row hr, lda_row hr, e, l1, k2, k3, k4, stv_row hr, stv_put hr]

/-- What an answer makes of it. -/
inductive TellTo (c : Cf) (m : Mm) : Mm → Prop
  | goes {m'} : m.lk = false → tgt c m.ap → GoesTo c m m' → TellTo c m m'
  | left (r : Rf) : m.lk = false → ¬ tgt c m.ap → lessK r.rk r.n m.ap.rk m.ap.n → TellTo c m { m with ap := r }
  | goes2 {m'} : m.lk = true → GoesTo c { m with ap := m.to, lk := false } m' → TellTo c m m'
  | again (x : Mm) (t : List (Wk × Rf)) : x = { m with tab := t } → TellTo c m (againC c x)
  | dead (t : List (Wk × Rf)) : m.n < 64 → TellTo c m { m with tab := t, n := m.n + 1, lk := false }
  | busy (t : List (Wk × Rf)) : TellTo c m (busy { m with tab := t })
theorem upd_len (tab : List (Wk × Rf)) (k : Wk) (r : Rf) : (upd tab k r).length ≤ tab.length + 1 := by
  unfold upd
  split <;> simp
theorem tell_r {c : Cf} {m : Mm} {s : St} {b q : Nat} (h : At c m s b q) (hn : 0 ≤ m.n) (ho : m.ov = false) (hs : m.tab.length ≤ 4611686018427387000) (hw : okV m.wl m.wb) (a : Ans) :
    ∃ m' s', seek_Seek_Tell.v (P b) (.agg ⟨a.cs⟩) s = some (unit', s') ∧ At c m' s' b q ∧ TellTo c m m' ∧ Stq b q s s' ∧ m'.tab.length ≤ m.tab.length + 1 := by
  have i := is_r h
  have hr := h.row
  have tabG : ∀ {m m' : Mm}, GoesTo c m m' → m'.tab = m.tab := by
    intro m m' g
    cases g with
    | again => unfold againC busy; split <;> rfl
    | look r _ _ => rfl
    | down w _ _ => rfl
    | over r f => rfl
  have tabA : ∀ m : Mm, (againC c m).tab = m.tab := fun m => by unfold againC busy; split <;> rfl
  cases hk : m.lk with
  | false =>
    rcases Classical.propComplete (a.k = 1) with k1 | k1
    · have l1 := less_r m.ap.rk m.ap.n c.tr c.tn s
      by_cases k2 : lessK m.ap.rk m.ap.n c.tr c.tn
      · rw [decide_eq_true k2] at l1
        obtain ⟨m', s', e, g1, g2, g3⟩ := goes_r h hn hs hw a.r
        refine ⟨m', s', ?_, g1, .goes hk k2 g2, g3, by rw [tabG g2]; omega⟩
        simp only [seek_Seek_Tell.v, seek_Seek_Tell.t, seek_Seek_stood.v, seek_Seek_stood.t, sy, reduceIte, Nat.reduceAdd, Nat.reduceLeDiff, Nat.reduceLT, Nat.reduceEqDiff, Int.reduceEq, Int.reduceLT, Int.reduceLE, Int.reduceNe, ly, ldc_row hr, lda_row hr, i, ho, hk, k1, l1, e]
      · rw [decide_eq_false k2] at l1
        have kc := kcheck_r a.l.rk a.l.n s
        have l2 := less_r a.l.rk a.l.n m.ap.rk m.ap.n s
        obtain ⟨s2, a1, a2, a3⟩ := again_r h hn
        by_cases k3 : okK a.l.rk a.l.n
        · simp only [k3, reduceIte] at kc
          by_cases k4 : lessK a.l.rk a.l.n m.ap.rk m.ap.n
          · rw [decide_eq_true k4] at l2
            refine ⟨{ m with ap := a.l }, Put s b (urow c { m with ap := a.l } q), ?_, h.put rfl, .left a.l hk k2 k4, .putb, by simp⟩
            simp only [seek_Seek_Tell.v, seek_Seek_Tell.t, seek_Seek_stood.v, seek_Seek_stood.t, sy, reduceIte, Nat.reduceAdd, Nat.reduceLeDiff, Nat.reduceLT, Nat.reduceEqDiff, Int.reduceEq, Int.reduceLT, Int.reduceLE, Int.reduceNe, ly, ldc_row hr, lda_row hr, i, ho, hk, k1, l1, kc, l2, stv_row hr]
          · rw [decide_eq_false k4] at l2
            refine ⟨_, s2, ?_, a2, .again m m.tab rfl, a3, by rw [tabA]; omega⟩
            simp only [seek_Seek_Tell.v, seek_Seek_Tell.t, seek_Seek_stood.v, seek_Seek_stood.t, sy, reduceIte, Nat.reduceAdd, Nat.reduceLeDiff, Nat.reduceLT, Nat.reduceEqDiff, Int.reduceEq, Int.reduceLT, Int.reduceLE, Int.reduceNe, ly, ldc_row hr, lda_row hr, i, ho, hk, k1, l1, kc, l2, a1]
        · simp only [k3, reduceIte] at kc
          refine ⟨_, s2, ?_, a2, .again m m.tab rfl, a3, by rw [tabA]; omega⟩
          simp only [seek_Seek_Tell.v, seek_Seek_Tell.t, seek_Seek_stood.v, seek_Seek_stood.t, sy, reduceIte, Nat.reduceAdd, Nat.reduceLeDiff, Nat.reduceLT, Nat.reduceEqDiff, Int.reduceEq, Int.reduceLT, Int.reduceLE, Int.reduceNe, ly, ldc_row hr, lda_row hr, i, ho, hk, k1, l1, kc, a1]
    · rcases Classical.propComplete (a.k = 3) with k3 | k3
      · obtain ⟨s1, e1, h1, st1⟩ := keep_r h m.ap a
        obtain ⟨s2, e2, h2, st2⟩ := again_r h1 hn
        refine ⟨_, s2, ?_, h2, .again _ _ rfl, st1.trans st2, by rw [tabA]; exact upd_len _ _ _⟩
        simp only [seek_Seek_Tell.v, seek_Seek_Tell.t, seek_Seek_stood.v, seek_Seek_stood.t, sy, reduceIte, Nat.reduceAdd, Nat.reduceLeDiff, Nat.reduceLT, Nat.reduceEqDiff, Int.reduceEq, Int.reduceLT, Int.reduceLE, Int.reduceNe, ly, ldc_row hr, lda_row hr, i, ho, hk, k1, k3, e1, e2]
      · obtain ⟨s2, e2, h2, st2⟩ := again_r h hn
        refine ⟨_, s2, ?_, h2, .again m m.tab rfl, st2, by rw [tabA]; omega⟩
        simp only [seek_Seek_Tell.v, seek_Seek_Tell.t, seek_Seek_stood.v, seek_Seek_stood.t, sy, reduceIte, Nat.reduceAdd, Nat.reduceLeDiff, Nat.reduceLT, Nat.reduceEqDiff, Int.reduceEq, Int.reduceLT, Int.reduceLE, Int.reduceNe, ly, ldc_row hr, lda_row hr, i, ho, hk, k1, k3, e2]
  | true =>
    rcases Classical.propComplete (a.k = 1) with k1 | k1
    · obtain ⟨sA, hsA⟩ : ∃ s1, s1 = Put s b (urow c { m with ap := m.to } q) := ⟨_, rfl⟩
      have eA : stv s 5 (.pointer (some ⟨b, 0, some 9⟩)) (.agg ⟨m.to.cs⟩) = some sA := by
        rw [hsA]; simp only [stv_row hr, sy, reduceIte, Nat.reduceAdd, Nat.reduceLeDiff, Nat.reduceLT, Nat.reduceEqDiff, Int.reduceEq, Int.reduceLT, Int.reduceLE, Int.reduceNe, ly]
      have hA : At c { m with ap := m.to } sA b q := by rw [hsA]; exact h.put rfl
      have hrA := hA.row
      obtain ⟨s1, hs1⟩ : ∃ s1, s1 = Put sA b (urow c { m with ap := m.to, lk := false } q) := ⟨_, rfl⟩
      have eB : stv sA 1 (.pointer (some ⟨b, 0, some 16⟩)) (.bool false) = some s1 := by
        rw [hs1]; simp only [stv_row hrA, sy, reduceIte, Nat.reduceAdd, Nat.reduceLeDiff, Nat.reduceLT, Nat.reduceEqDiff, Int.reduceEq, Int.reduceLT, Int.reduceLE, Int.reduceNe, ly]
      have h1 : At c { m with ap := m.to, lk := false } s1 b q := by rw [hs1]; exact hA.put rfl
      have st1 : Stq b q s s1 := by rw [hs1, hsA]; exact Stq.putb.trans .putb
      obtain ⟨m', s', e, g1, g2, g3⟩ := goes_r h1 hn hs hw a.r
      refine ⟨m', s', ?_, g1, .goes2 hk g2, st1.trans g3, by rw [tabG g2]; simp⟩
      simp only [seek_Seek_Tell.v, seek_Seek_Tell.t, seek_Seek_looked.v, seek_Seek_looked.t, sy, reduceIte, Nat.reduceAdd, Nat.reduceLeDiff, Nat.reduceLT, Nat.reduceEqDiff, Int.reduceEq, Int.reduceLT, Int.reduceLE, Int.reduceNe, ly, ldc_row hr, lda_row hr, i, ho, hk, k1, eA, eB, e]
    · rcases Classical.propComplete (a.k = 3) with k3 | k3
      · obtain ⟨s1, e1, h1, st1⟩ := keep_r h m.to a
        rcases counts_r h1 hn with ⟨g1, e2⟩ | ⟨g1, e2⟩
        · refine ⟨busy { m with tab := upd m.tab ⟨m.to.id, m.wl, m.wb⟩ a.r }, Put s1 b (urow c (busy { m with tab := upd m.tab ⟨m.to.id, m.wl, m.wb⟩ a.r }) q), ?_, h1.put rfl, .busy _, st1.trans .putb, upd_len _ _ _⟩
          simp only [seek_Seek_Tell.v, seek_Seek_Tell.t, seek_Seek_looked.v, seek_Seek_looked.t, sy, reduceIte, Nat.reduceAdd, Nat.reduceLeDiff, Nat.reduceLT, Nat.reduceEqDiff, Int.reduceEq, Int.reduceLT, Int.reduceLE, Int.reduceNe, ly, ldc_row hr, lda_row hr, i, ho, hk, k1, k3, e1, e2, keepC, busy]
        · have hr1 := h1.row
          refine ⟨{ m with tab := upd m.tab ⟨m.to.id, m.wl, m.wb⟩ a.r, n := m.n + 1, lk := false }, Put s1 b (urow c { m with tab := upd m.tab ⟨m.to.id, m.wl, m.wb⟩ a.r, n := m.n + 1, lk := false } q), ?_, h1.put rfl, .dead _ g1, st1.trans .putb, upd_len _ _ _⟩
          simp only [seek_Seek_Tell.v, seek_Seek_Tell.t, seek_Seek_looked.v, seek_Seek_looked.t, sy, reduceIte, Nat.reduceAdd, Nat.reduceLeDiff, Nat.reduceLT, Nat.reduceEqDiff, Int.reduceEq, Int.reduceLT, Int.reduceLE, Int.reduceNe, ly, ldc_row hr, lda_row hr, i, ho, hk, k1, k3, e1, e2, stv_put hr1, keepC]
      · obtain ⟨s2, e2, h2, st2⟩ := again_r h hn
        refine ⟨_, s2, ?_, h2, .again m m.tab rfl, st2, by rw [tabA]; omega⟩
        simp only [seek_Seek_Tell.v, seek_Seek_Tell.t, seek_Seek_looked.v, seek_Seek_looked.t, sy, reduceIte, Nat.reduceAdd, Nat.reduceLeDiff, Nat.reduceLT, Nat.reduceEqDiff, Int.reduceEq, Int.reduceLT, Int.reduceLE, Int.reduceNe, ly, ldc_row hr, lda_row hr, i, ho, hk, k1, k3, e2]
end Go.Proofs.Ytdppefkjoeefnaa
