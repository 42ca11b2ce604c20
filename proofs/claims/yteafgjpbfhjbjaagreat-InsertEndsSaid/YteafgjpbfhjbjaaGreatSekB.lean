/-
  The machine of package seek: how it goes right, and what an answer makes of it.
-/
import Derived.Test.YteafgjpbfhjbjaaGreatSekA
set_option linter.unusedSimpArgs false
set_option linter.unusedVariables false
set_option maxRecDepth 100000
set_option maxHeartbeats 2000000
namespace Go.Proofs.YteafgjpbfhjbjaaGreat
open Go.Sim Go.Sim.Bt
attribute [local congr] bdc cndc itec gdc gdSc gdUc
theorem lessK_trans {a b c d e f : Int} (h : lessK a b c d) (g : lessK c d e f) : lessK a b e f := by unfold lessK at *; omega
theorem lessK_irr {a b : Int} : ¬ lessK a b a b := by unfold lessK; omega
theorem filter_lt {α : Type} (p p' : α → Bool) : ∀ l : List α, (∀ x ∈ l, p' x = true → p x = true) → (∃ x ∈ l, p x = true ∧ p' x = false) → (l.filter p').length < (l.filter p).length
  | [], _, h => by obtain ⟨x, hx, _⟩ := h; cases hx
  | a :: l, hs, h => by
    have hle : (l.filter p').length ≤ (l.filter p).length := by
      clear h
      induction l with
      | nil => simp
      | cons b l ih =>
        have ih := ih (fun x hx => hs x (by
          rcases List.mem_cons.1 hx with g | g
          · exact g ▸ List.mem_cons_self ..
          · exact List.mem_cons_of_mem _ (List.mem_cons_of_mem _ g)))
        have hb := hs b (List.mem_cons_of_mem _ (List.mem_cons_self ..))
        cases h1 : p' b
        · cases h2 : p b <;> simp [h1, h2] <;> omega
        · simp [h1, hb h1]; omega
    by_cases ha : p a = true ∧ p' a = false
    · simp [ha.1, ha.2]; omega
    · obtain ⟨x, hx, h1, h2⟩ := h
      have hx' : x ∈ l := by
        rcases List.mem_cons.1 hx with g | g
        · subst g; exact absurd ⟨h1, h2⟩ ha
        · exact g
      have ih := filter_lt p p' l (fun y hy => hs y (List.mem_cons_of_mem _ hy)) ⟨x, hx', h1, h2⟩
      have hb := hs a (List.mem_cons_self ..)
      cases h3 : p' a
      · cases h4 : p a
        · simp [h3, h4]; omega
        · exact absurd ⟨h4, h3⟩ ha
      · simp [h3, hb h3]; omega
def above (r : Rf) (e : Wk × Rf) : Bool := decide (lessK r.rk r.n e.2.rk e.2.n)
def cnt (tab : List (Wk × Rf)) (r : Rf) : Nat := (tab.filter (above r)).length
theorem cnt_lt {tab : List (Wk × Rf)} {r : Rf} {e : Wk × Rf} (he : e ∈ tab) (h : lessK r.rk r.n e.2.rk e.2.n) : cnt tab e.2 < cnt tab r :=
  filter_lt _ _ tab (fun x _ hx => decide_eq_true (lessK_trans h (of_decide_eq_true hx))) ⟨e, he, decide_eq_true h, decide_eq_false lessK_irr⟩
def tgt (c : Cf) (r : Rf) : Prop := lessK r.rk r.n c.tr c.tn
instance (c : Cf) (r : Rf) : Decidable (tgt c r) := by unfold tgt; infer_instance
inductive GoesTo (c : Cf) (m : Mm) : Mm → Prop
  | again : GoesTo c m (againC c m)
  | look (r : Rf) : lessK m.ap.rk m.ap.n r.rk r.n → tgt c r → GoesTo c m { m with lk := true, to := r }
  | down (w : Int) : 0 < m.wl → okV (m.wl - 1) w → GoesTo c m { m with wl := m.wl - 1, wb := w, lk := false }
  | over (r : Rf) (f : Bool) : GoesTo c m { m with ov := true, res := ⟨0, 0, m.ap, r, f⟩ }
inductive TellTo (c : Cf) (m : Mm) : Mm → Prop
  | goes {m'} : m.lk = false → tgt c m.ap → GoesTo c m m' → TellTo c m m'
  | left (r : Rf) : m.lk = false → ¬ tgt c m.ap → lessK r.rk r.n m.ap.rk m.ap.n → TellTo c m { m with ap := r }
  | goes2 {m'} : m.lk = true → GoesTo c { m with ap := m.to, lk := false } m' → TellTo c m m'
  | again (x : Mm) (t : List (Wk × Rf)) : x = { m with tab := t } → TellTo c m (againC c x)
  | dead (t : List (Wk × Rf)) : m.n < 64 → TellTo c m { m with tab := t, n := m.n + 1, lk := false }
  | busy (t : List (Wk × Rf)) : TellTo c m (busy { m with tab := t })
theorem upd_len (tab : List (Wk × Rf)) (k : Wk) (r : Rf) : (upd tab k r).length ≤ tab.length + 1 := by
  unfold upd
  split <;> simp
end Go.Proofs.YteafgjpbfhjbjaaGreat
