/-
  The machine of package scan in memory.
-/
import Derived.Test.YtmobdijoaebilaaScnA
set_option linter.unusedSimpArgs false
set_option linter.unusedVariables false
set_option maxRecDepth 100000
set_option maxHeartbeats 2000000
namespace Go.Proofs.Ytmobdijoaebilaa
open Go.Sim Go.Sim.Bt
attribute [local congr] bdc cndc itec gdc gdSc gdUc

/-- What holds of a search's result: it is not below its target. -/
def InvG (c : Cf) (ms : Mm) : Prop := ms.ov = true → ms.res.e = 0 → ¬ lessK ms.res.r.rk ms.res.r.n c.tr c.tn ∧ okK ms.res.r.rk ms.res.r.n
theorem invG_busy {c : Cf} {m : Mm} : InvG c (busy m) := fun _ e => by simp [busy] at e
theorem invG_no {c : Cf} {m : Mm} (ho : m.ov = false) : InvG c m := fun e => by rw [ho] at e; cases e
theorem invG_again {c : Cf} {m : Mm} (ho : m.ov = false) : InvG c (againC c m) := by
  unfold againC
  split
  · exact invG_busy
  · exact invG_no ho
theorem invG_goes {c : Cf} {m : Mm} (ho : m.ov = false) {x : Option Rf} (hx : ∀ r, x = some r → okK r.rk r.n) : InvG c (goesF c m x) := by
  cases x with
  | none => exact invG_again ho
  | some r =>
    simp only [goesF]
    split
    · exact invG_no ho
    · rename_i k
      split
      · exact invG_no ho
      · exact fun _ _ => ⟨k, hx r rfl⟩
theorem invG_tell {c : Cf} {m : Mm} (h : InvG c m) (a : Ans) {x : Option Rf} (hx : ∀ r, x = some r → okK r.rk r.n) : InvG c (tellF c m a x) := by
  unfold tellF
  split
  · exact h
  · rename_i ho
    have ho : m.ov = false := by cases hb : m.ov; rfl; exact absurd hb ho
    have hk : ∀ r y, (keepC m r y).ov = false := fun _ _ => ho
    split
    · split
      · split
        · exact invG_goes ho hx
        · split
          · exact invG_no ho
          · exact invG_again ho
      · split
        · exact invG_again (hk _ _)
        · exact invG_again ho
    · split
      · exact invG_goes (m := { m with ap := m.to, lk := false }) ho hx
      · split
        · split
          · exact invG_busy
          · exact invG_no ho
        · exact invG_again ho
theorem invG_dead {c : Cf} {m : Mm} (h : InvG c m) (a : Ans) : InvG c (deadF m a) := by
  unfold deadF
  split
  · simp only []
    split
    · exact invG_busy
    · exact invG_no rfl
  · exact h
theorem chase_ok {tab : List (Wk × Rf)} {wl wb : Int} {d : Nat} {ar an : Int} {r : Rf} {x : Option Rf} (h : Chase tab wl wb d ar an r x) : ∀ y, x = some y → okK y.rk y.n := by
  induction h with
  | bad _ => intro y e; cases e
  | back _ _ => intro y e; cases e
  | here k _ _ => intro y e; cases e; exact k
  | next _ _ _ _ _ ih => exact ih
/-- At hand: whom it asks next. -/
def handS (m : Sc) : Prop := m.ov = false ∧ m.w = false ∧ ¬ (m.hs = true ∧ m.so = false)
structure InvSc (c : SC) (m : Sc) (N : Nat) : Prop where
  ms : InvS m.ms
  g : InvG (c.sk m.sr m.sn) m.ms
  tab : m.ms.tab.length ≤ N
  okS : okC (c.sk m.sr m.sn)
  okF : okC (c.sk m.fr m.fn)
  srk : m.sr = 2 ∨ m.sr = 3
  tr : 0 ≤ m.tr
  so : m.so = true → m.hs = true
  x : handS m → m.x.rk = 2
  its : m.its.length ≤ 64
  ril : m.ri.length ≤ 64
/-- In memory; `iv` is its own slice of items. -/
structure AtS (c : SC) (m : Sc) (s : St) (p N : Nat) (iv : Value) : Prop where
  ex : ∃ b q sp riv rows rrows, SRow s p (srow c m sp iv riv) ∧ (m.hs = true → sp = P b) ∧ (m.hs = false → sp = nilP) ∧ At (c.sk m.sr m.sn) m.ms s b q ∧ Ful 0 s 2 iv rows ∧ ItR s rows m.its ∧ IsR s 2 riv rrows ∧ ItR s rrows m.ri ∧ (m.ov = false → riv = nilV)
  inv : InvSc c m N
abbrev StS (iv iv' : Value) (s s' : St) : Prop := StpI [37, 40, 1000] iv iv' s s'
theorem okC_next {c : SC} (h : okC (c.sk 2 0)) (r n : Int) (hr : (r = 2) ∨ (r = 3 ∧ n = 0)) : okC (c.sk r n) := by
  obtain ⟨h1, h2, h3, h4, h5, h6, h7⟩ := h
  refine ⟨h1, h2, h3, h4, h5, ?_, ?_⟩
  · rcases hr with hr | ⟨hr, hn⟩
    · exact .inl hr
    · exact .inr ⟨.inr hr, hn⟩
  · show r ≠ 1; omega
theorem okC_fn {c : SC} {r n : Int} (h : okC (c.sk r n)) (x : Int) : okC (c.sk (nextR x) (nextN x)) := by
  obtain ⟨h1, h2, h3, h4, h5, h6, h7⟩ := h
  refine okC_next ⟨h1, h2, h3, h4, h5, .inl rfl, by show (2 : Int) ≠ 1; decide⟩ _ _ ?_
  unfold nextR nextN
  split
  · exact .inr ⟨rfl, rfl⟩
  · exact .inl rfl
/-- A new search. -/
theorem again_at {c : SC} {m : Sc} {s : St} {p N : Nat} {iv : Value} {sp riv : Value} {rows : List (List Value)} {b q : Nat} {cf : Cf} (f : Fresh s) (hb : 0 ≤ c.st.bt)
    (h : SRow s p (srow c m sp iv riv)) (h1 : m.hs = true → sp = P b) (h2 : m.hs = false → sp = nilP) (hA : At (c.sk m.sr m.sn) m.ms s b q) (hF : Ful 0 s 2 iv rows) (hI : ItR s rows m.its) (hr : riv = nilV) (hri : m.ri = [])
    (ov : m.ov = false) (w : m.w = false) (hms : InvS m.ms) (hg : InvG (c.sk m.sr m.sn) m.ms) (ht : m.ms.tab.length ≤ N) (okS : okC (c.sk m.sr m.sn)) (okF : okC (c.sk m.fr m.fn)) (srk : m.sr = 2 ∨ m.sr = 3) (tr : 0 ≤ m.tr) (so : m.so = true → m.hs = true) (its : m.its.length ≤ 64) :
    ∃ s', scan_Scan_again.v (P p) s = some (unit', s') ∧ AtS c (againS c m) s' p N iv ∧ StS iv iv s s' := by
  subst hr
  rcases again_s f h hb tr okF with ⟨k, e⟩ | ⟨k, s', b', q', e, r1, r2, r3⟩
  · have ea : againS c m = endsS m 121 [] := by simp [againS, k]
    rw [ea] at e ⊢
    have kp : StpK [37, 40, 1000] s (SPut s p (srow c (endsS m 121 []) sp iv nilV)) := .put h (by simp [kd])
    refine ⟨_, e, ⟨⟨b, q, sp, nilV, rows, [], put_s h, ?_, ?_, ?_, hF.stp kp (by simp), ?_, .nil, ?_, fun _ => rfl⟩, ?_⟩, .of kp⟩
    · exact h1
    · exact h2
    · exact hA.stp (ks := [37]) (.put h (by simp [kd])) (by simp) (by simp)
    · exact hI.stp kp (by simp)
    · exact .nil
    · exact ⟨hms, hg, ht, okS, okF, srk, tr, so, (fun e => by simp [endsS, handS] at e), its, by simp [endsS]⟩
  · have ea : againS c m = { m with tr := m.tr + 1, hs := true, sr := m.fr, sn := m.fn, ms := m0 (c.sk m.fr m.fn), so := false } := by unfold againS; rw [if_neg (by omega)]
    rw [ea] at r1 ⊢
    have srk' : m.fr = 2 ∨ m.fr = 3 := by
      obtain ⟨_, _, _, _, _, h6, h7⟩ := okF
      have h7 : m.fr ≠ 1 := h7
      rcases h6 with h6 | ⟨h6 | h6, _⟩
      · exact .inl h6
      · exact absurd h6 h7
      · exact .inr h6
    refine ⟨s', e, ⟨⟨b', q', P b', nilV, rows, [], r1, fun _ => rfl, (fun e => by cases e), r2, hF.stp r3 (by simp), hI.stp r3 (by simp), .nil, by rw [hri]; exact .nil, fun _ => rfl⟩, ?_⟩, .of (r3.mono (by simp))⟩
    refine ⟨inv_m0 okF, fun e => by simp [m0] at e, Nat.zero_le _, okF, okF, srk', by show 0 ≤ m.tr + 1; omega, (fun e => by cases e), (fun e => ?_), its, by show m.ri.length ≤ 64; rw [hri]; simp⟩
    exact absurd ⟨rfl, rfl⟩ e.2.2
/-- Somebody is taken in hand. -/
theorem takes_at {c : SC} {m : Sc} {s : St} {p N : Nat} {iv : Value} {sp riv : Value} {rows : List (List Value)} {b q : Nat} {x : Rf} {so' : Bool}
    (h : SRow s p (srow c m sp iv riv)) (h1 : m.hs = true → sp = P b) (h2 : m.hs = false → sp = nilP) (hA : At (c.sk m.sr m.sn) m.ms s b q) (hF : Ful 0 s 2 iv rows) (hI : ItR s rows m.its) (hr : riv = nilV) (hri : m.ri = [])
    (ov : m.ov = false) (hms : InvS m.ms) (hg : InvG (c.sk m.sr m.sn) m.ms) (ht : m.ms.tab.length ≤ N) (okS : okC (c.sk m.sr m.sn)) (okF : okC (c.sk m.fr m.fn)) (srk : m.sr = 2 ∨ m.sr = 3) (tr : 0 ≤ m.tr) (its : m.its.length ≤ 64)
    (hs : so' = true → m.hs = true) (hx2 : 2 ≤ x.rk) :
    ∃ s', scan_Scan_takes.v (P p) (.agg ⟨x.cs⟩) (.bool so') s = some (unit', s') ∧ AtS c (takesS c m x so') s' p N iv ∧ StpK [37] s s' ∧ (s' = s ∨ ∃ X, s' = SPut s p X) := by
  subst hr
  have e := takes_s h hF.isR.bx x so'
  have kp : ∀ X, StpK [37] s (SPut s p X) := fun X => .put h (by simp [kd])
  refine ⟨_, e, ?_, kp _, .inr ⟨_, rfl⟩⟩
  have hsp1 : (so' && m.hs) = true → (if so' = true then sp else nilP) = P b := by
    cases so' <;> simp; exact h1
  have hsp2 : (so' && m.hs) = false → (if so' = true then sp else nilP) = nilP := by
    cases so' <;> simp; exact h2
  by_cases k : lessK 2 c.high x.rk x.n
  · simp only [takesS, if_pos k]
    exact ⟨⟨b, q, _, iv, rows, rows, put_s h, hsp1, hsp2, hA.stp (kp _) (by simp) (by simp), hF.stp (kp _) (by simp), hI.stp (kp _) (by simp), (hF.stp (kp _) (by simp)).isR, hI.stp (kp _) (by simp), (fun e => by cases e)⟩,
      ⟨hms, hg, ht, okS, okF, srk, tr, (fun e => by have := hs e; show (so' && m.hs) = true; rw [show so' = true from e, this]; rfl), (fun e => by simp [endsS, handS] at e), its, its⟩⟩
  · simp only [takesS, if_neg k]
    refine ⟨⟨b, q, _, nilV, rows, [], put_s h, hsp1, hsp2, hA.stp (kp _) (by simp) (by simp), hF.stp (kp _) (by simp), hI.stp (kp _) (by simp), .nil, by show ItR _ [] m.ri; rw [hri]; exact .nil, fun _ => rfl⟩,
      ⟨hms, hg, ht, okS, okF, srk, tr, (fun e => by have := hs e; show (so' && m.hs) = true; rw [show so' = true from e, this]; rfl), (fun _ => ?_), its, by show m.ri.length ≤ 64; rw [hri]; simp⟩⟩
    show x.rk = 2
    unfold lessK at k
    omega
/-- The search may be over. -/
theorem found_at {c : SC} {m : Sc} {s : St} {p N : Nat} {iv : Value} {riv : Value} {rows : List (List Value)} {b q : Nat}
    (h : SRow s p (srow c m (P b) iv riv)) (hs : m.hs = true) (so : m.so = false) (hA : At (c.sk m.sr m.sn) m.ms s b q) (hF : Ful 0 s 2 iv rows) (hI : ItR s rows m.its) (hr : riv = nilV) (hri : m.ri = [])
    (ov : m.ov = false) (hms : InvS m.ms) (hg : InvG (c.sk m.sr m.sn) m.ms) (ht : m.ms.tab.length ≤ N) (okS : okC (c.sk m.sr m.sn)) (okF : okC (c.sk m.fr m.fn)) (srk : m.sr = 2 ∨ m.sr = 3) (tr : 0 ≤ m.tr) (its : m.its.length ≤ 64) :
    ∃ s', scan_Scan_found.v (P p) s = some (unit', s') ∧ AtS c (foundS c m) s' p N iv ∧ StpK [37] s s' := by
  have n1 := next_r hA
  cases ho : m.ms.ov with
  | false =>
    rw [show nextC m.ms = stepC 1 (if m.ms.lk = true then m.ms.to else m.ms.ap) ⟨1, m.ms.wl, m.ms.wb, zR, zR, 0, 0⟩ zRes by simp [nextC, ho]] at n1
    generalize (if m.ms.lk = true then m.ms.to else m.ms.ap) = t at n1
    have e : foundS c m = m := by simp [foundS, ho]
    rw [e]
    subst hr
    exact ⟨s, by simp only [scan_Scan_found.v, scan_Scan_found.t, sy, reduceIte, Nat.reduceAdd, Nat.reduceLeDiff, Nat.reduceLT, Nat.reduceEqDiff, Int.reduceEq, Int.reduceLT, Int.reduceLE, Int.reduceNe, ly, ldc_row h, n1, stepC], ⟨⟨b, q, P b, nilV, rows, [], h, fun _ => rfl, (fun e => by rw [hs] at e; cases e), hA, hF, hI, .nil, by rw [hri]; exact .nil, fun _ => rfl⟩, ⟨hms, hg, ht, okS, okF, srk, tr, (fun e => by rw [so] at e; cases e), (fun e => absurd ⟨hs, so⟩ e.2.2), its, by rw [hri]; simp⟩⟩, .refl _ _⟩
  | true =>
    rw [show nextC m.ms = stepC 3 zR zAsk m.ms.res by simp [nextC, ho]] at n1
    rcases Classical.propComplete (m.ms.res.e = 0) with k0 | k0
    · have e : foundS c m = takesS c m m.ms.res.r true := by simp [foundS, ho, of_eq_true k0]
      have hg' := hg ho (of_eq_true k0)
      have hx2 : 2 ≤ m.ms.res.r.rk := by
        obtain ⟨g1, _⟩ := hg'
        unfold lessK at g1
        have : m.sr = 2 ∨ m.sr = 3 := srk
        simp only [SC.sk] at g1
        omega
      obtain ⟨s', t1, t2, t3, _⟩ := takes_at (so' := true) h (fun _ => rfl) (fun e => by rw [hs] at e; cases e) hA hF hI hr hri ov hms hg ht okS okF srk tr its (fun _ => hs) hx2
      rw [e]
      exact ⟨s', by simp only [scan_Scan_found.v, scan_Scan_found.t, sy, reduceIte, Nat.reduceAdd, Nat.reduceLeDiff, Nat.reduceLT, Nat.reduceEqDiff, Int.reduceEq, Int.reduceLT, Int.reduceLE, Int.reduceNe, ly, ldc_row h, n1, stepC, k0, t1], t2, t3⟩
    · have e : foundS c m = endsS m m.ms.res.e [] := by simp [foundS, ho, of_eq_false k0]
      have t1 := ends_s (l := []) (w := nilV) h m.ms.res.e rfl
      have kp : ∀ X, StpK [37] s (SPut s p X) := fun X => .put h (by simp [kd])
      rw [e]
      exact ⟨_, by simp only [scan_Scan_found.v, scan_Scan_found.t, sy, reduceIte, Nat.reduceAdd, Nat.reduceLeDiff, Nat.reduceLT, Nat.reduceEqDiff, Int.reduceEq, Int.reduceLT, Int.reduceLE, Int.reduceNe, ly, ldc_row h, n1, stepC, k0, t1], ⟨⟨b, q, P b, nilV, rows, [], put_s h, fun _ => rfl, (fun e => by rw [show (endsS m m.ms.res.e []).hs = m.hs from rfl, hs] at e; cases e), hA.stp (kp _) (by simp) (by simp), hF.stp (kp _) (by simp), hI.stp (kp _) (by simp), .nil, .nil, fun _ => rfl⟩, ⟨hms, hg, ht, okS, okF, srk, tr, (fun e => by rw [show (endsS m m.ms.res.e []).so = m.so from rfl, so] at e; cases e), (fun e => by simp [endsS, handS] at e), its, by simp [endsS]⟩⟩, kp _⟩
end Go.Proofs.Ytmobdijoaebilaa
