/-
  The search in a world: what each answer makes of it, and that it ends.
-/
import Derived.Test.YtonnegfkokghdaaSekW
set_option linter.unusedSimpArgs false
set_option linter.unusedVariables false
set_option maxRecDepth 100000
set_option maxHeartbeats 2000000
namespace Go.Proofs.Ytonnegfkokghdaa
open Go.Sim Go.Sim.Bt

/-- How many stand below a key. -/
noncomputable def rankW (W : Wd) (rk n : Int) : Nat := ((lst W 0 0).filter fun y => decide (lessK y.rk y.n rk n)).length
theorem lst_all {W : Wd} (h : OkW W) {wl wb : Int} {r : Rf} (hr : r ∈ lst W wl wb) : r ∈ lst W 0 0 := by
  rcases lst_mem hr with rfl | ⟨g1, g2⟩ | rfl
  · simp [lst]
  · unfold lst inL
    simp only [List.mem_cons, List.mem_append, List.mem_filter, decide_eq_true_eq]
    refine .inr (.inl ⟨g1, g2.1, ⟨0, 0, rfl, rfl, by omega, by omega⟩, ?_, ?_⟩)
    · have := (h.vec r g1).1; omega
    · obtain ⟨v1, v2, v3⟩ := h.vec r g1
      rw [v1]
      simp only [Int.toNat_natCast, Int.toNat_zero, Nat.sub_zero]
      exact Nat.div_eq_of_lt (by omega)
  · simp [lst]
theorem rank_lt {W : Wd} {a b c d : Int} {r : Rf} (hr : r ∈ lst W 0 0) (h1 : lessK a b c d) (h2 : ¬ lessK r.rk r.n a b) (h3 : lessK r.rk r.n c d) : rankW W a b < rankW W c d := by
  unfold rankW
  refine filter_lt _ _ _ ?_ ⟨r, hr, by simpa using h3, by simpa using h2⟩
  intro x _ hx
  simp only [decide_eq_true_eq] at hx ⊢
  exact lessK_trans hx h1
theorem lst_len (W : Wd) (wl wb : Int) : (lst W wl wb).length ≤ W.L.length + 2 := by
  unfold lst
  have := List.length_filter_le (inL wl wb) W.L
  simp only [List.length_cons, List.length_append, List.length_nil]
  omega
theorem rank_le {W : Wd} {a b : Int} {r : Rf} (hr : r ∈ lst W 0 0) (h : ¬ lessK r.rk r.n a b) : rankW W a b ≤ W.L.length + 1 := by
  have h1 : ((lst W 0 0).filter fun y => decide (lessK y.rk y.n a b)).length < ((lst W 0 0).filter fun _ => true).length :=
    filter_lt _ _ _ (fun _ _ _ => rfl) ⟨r, hr, rfl, by simpa using h⟩
  have h2 := List.length_filter_le (fun _ => true) (lst W 0 0)
  have h3 := lst_len W 0 0
  unfold rankW
  omega

structure InvW (W : Wd) (c : Cf) (m : Mm) : Prop where
  ov : m.ov = false
  n0 : 0 ≤ m.n
  n64 : m.n ≤ 64
  tab : TabOk W c m.tab
  tn : (m.tab.length : Int) = m.n
  pre : ∃ k : Nat, k ≤ W.h ∧ m.wl = k ∧ m.wb = ((c.st.bt.toNat / 2 ^ (W.h - k) : Nat) : Int)
  ap : ∃ p q, lst W m.wl m.wb = p ++ m.ap :: q
  apd : W.dead m.ap.id = false
  lf : lessK m.ap.rk m.ap.n c.tr c.tn ∨ ∀ i, W.dead i = false
  lk : m.lk = true → lessK m.ap.rk m.ap.n c.tr c.tn ∧ noW m.tab m.wl m.wb m.to ∧ lessK m.ap.rk m.ap.n m.to.rk m.to.n ∧ lessK m.to.rk m.to.n c.tr c.tn ∧ ∃ p q, lst W m.wl m.wb = p ++ m.to :: q
structure FinW (W : Wd) (c : Cf) (m : Mm) : Prop where
  ov : m.ov = true
  e : m.res.e = 0
  lk : m.lk = false
  n0 : 0 ≤ m.n
  n64 : m.n ≤ 64
  tab : TabOk W c m.tab
  tn : (m.tab.length : Int) = m.n
  wl : m.wl = 0
  wb : m.wb = 0
  lf : lessK m.ap.rk m.ap.n c.tr c.tn
  apd : W.dead m.ap.id = false
  l : m.res.l = m.ap
  nw : noW m.tab 0 0 m.res.r
  ge : ¬ lessK m.res.r.rk m.res.r.n c.tr c.tn
  fd : m.res.found = (decide (m.res.r.rk = c.tr) && decide (m.res.r.n = c.tn))
  sp : ∃ p mid q, lst W 0 0 = p ++ m.ap :: (mid ++ m.res.r :: q) ∧ ∀ y ∈ mid, W.dead y.id = true
def deadN (W : Wd) : Nat := (W.L.filter fun r => W.dead r.id).length
structure BusyW (W : Wd) (m : Mm) : Prop where
  ov : m.ov = true
  e : m.res.e = 121
  many : 65 ≤ deadN W * (W.h + 1)
/-- Too many wills: too many dead ones. -/
theorem tab_many {W : Wd} {c : Cf} {tab : List (Wk × Rf)} (hW : OkW W) (ht : TabOk W c tab) : tab.length ≤ deadN W * (W.h + 1) := by
  have h := nodup_le (l := tab.map (·.1)) (m := ((W.L.filter fun r => W.dead r.id).flatMap fun r => (List.range (W.h + 1)).map fun (k : Nat) => (⟨r.id, (k : Int), ((c.st.bt.toNat / 2 ^ (W.h - k) : Nat) : Int)⟩ : Wk))) ht.nd ?_
  · rw [List.length_map] at h
    refine Nat.le_trans h (Nat.le_of_eq ?_)
    rw [List.length_flatMap]
    simp only [List.length_map, List.length_range]
    rw [List.map_const', List.sum_replicate_nat]
    rfl
  · intro k hk
    rw [List.mem_map] at hk
    obtain ⟨e, he, rfl⟩ := hk
    obtain ⟨p, r, q, g1, g2, g3, _⟩ := ht.will e he
    obtain ⟨k, k1, k2, k3⟩ := ht.pre e he
    have hr : r ∈ lst W e.1.l e.1.b := by rw [g1]; simp
    rw [List.mem_flatMap]
    refine ⟨r, ?_, ?_⟩
    · rw [List.mem_filter]
      rcases lst_mem hr with rfl | ⟨h1, _⟩ | rfl
      · simp only [headR] at g3; rw [hW.hd] at g3; cases g3
      · exact ⟨h1, g3⟩
      · simp only [tailR] at g3; rw [hW.td] at g3; cases g3
    · rw [List.mem_map]
      refine ⟨k, by rw [List.mem_range]; omega, ?_⟩
      rw [← k2, ← k3, g2]
theorem tab_keep {W : Wd} {c : Cf} {tab : List (Wk × Rf)} {wl wb : Int} {r : Rf} {p q : List Rf} (ht : TabOk W c tab) (hn : noW tab wl wb r) (hs : lst W wl wb = p ++ r :: q) (hd : W.dead r.id = true)
    (hp : ∃ k : Nat, k ≤ W.h ∧ wl = k ∧ wb = ((c.st.bt.toNat / 2 ^ (W.h - k) : Nat) : Int)) : TabOk W c (upd tab ⟨r.id, wl, wb⟩ (q.headD zR)) ∧ (upd tab ⟨r.id, wl, wb⟩ (q.headD zR)).length = tab.length + 1 := by
  have e : upd tab ⟨r.id, wl, wb⟩ (q.headD zR) = tab ++ [(⟨r.id, wl, wb⟩, q.headD zR)] := by
    unfold upd
    have := hn
    unfold noW idxW at this
    rw [this]
  rw [e]
  refine ⟨⟨?_, ?_, ?_⟩, by simp⟩
  · intro x hx
    rw [List.mem_append, List.mem_singleton] at hx
    rcases hx with hx | rfl
    · exact ht.will x hx
    · exact ⟨p, r, q, hs, rfl, hd, rfl⟩
  · rw [List.map_append, List.nodup_append]
    refine ⟨ht.nd, by simp, ?_⟩
    intro a ha b hb
    simp only [List.map_cons, List.map_nil, List.mem_singleton] at hb
    subst hb
    rintro rfl
    exact idx_none hn ha
  · intro x hx
    rw [List.mem_append, List.mem_singleton] at hx
    rcases hx with hx | rfl
    · exact ht.pre x hx
    · exact hp

/-! ### Each step -/

noncomputable def muW (W : Wd) (c : Cf) (m : Mm) : Nat :=
  (if m.ov = true then 2 * (rankW W c.tr c.tn - rankW W m.ap.rk m.ap.n)
   else if m.lk = true then 2 * (rankW W c.tr c.tn - rankW W m.ap.rk m.ap.n) + 2 * m.wl.toNat
   else if lessK m.ap.rk m.ap.n c.tr c.tn then 2 * (rankW W c.tr c.tn - rankW W m.ap.rk m.ap.n) + 1 + 2 * m.wl.toNat
   else rankW W m.ap.rk m.ap.n + 2 * rankW W c.tr c.tn + 2 + 2 * m.wl.toNat) + 2 * (64 - m.n.toNat)
theorem mu_ov {W : Wd} {c : Cf} {m : Mm} (h : m.ov = true) : muW W c m = 2 * (rankW W c.tr c.tn - rankW W m.ap.rk m.ap.n) + 2 * (64 - m.n.toNat) := by unfold muW; rw [if_pos h]
theorem mu_lk {W : Wd} {c : Cf} {m : Mm} (h : m.ov = false) (h2 : m.lk = true) : muW W c m = 2 * (rankW W c.tr c.tn - rankW W m.ap.rk m.ap.n) + 2 * m.wl.toNat + 2 * (64 - m.n.toNat) := by
  unfold muW; rw [if_neg (by rw [h]; decide), if_pos h2]
theorem mu_lt {W : Wd} {c : Cf} {m : Mm} (h : m.ov = false) (h2 : m.lk = false) (h3 : lessK m.ap.rk m.ap.n c.tr c.tn) : muW W c m = 2 * (rankW W c.tr c.tn - rankW W m.ap.rk m.ap.n) + 1 + 2 * m.wl.toNat + 2 * (64 - m.n.toNat) := by
  unfold muW; rw [if_neg (by rw [h]; decide), if_neg (by rw [h2]; decide), if_pos h3]
theorem mu_ge {W : Wd} {c : Cf} {m : Mm} (h : m.ov = false) (h2 : m.lk = false) (h3 : ¬ lessK m.ap.rk m.ap.n c.tr c.tn) : muW W c m = rankW W m.ap.rk m.ap.n + 2 * rankW W c.tr c.tn + 2 + 2 * m.wl.toNat + 2 * (64 - m.n.toNat) := by
  unfold muW; rw [if_neg (by rw [h]; decide), if_neg (by rw [h2]; decide), if_neg h3]
/-- It goes right. -/
theorem goes_w {W : Wd} {c : Cf} {m : Mm} (hW : OkW W) (ht : c.tr = 2) (hb : c.st.bt.toNat < 2 ^ W.h) (ov : m.ov = false) (n0 : 0 ≤ m.n) (n64 : m.n ≤ 64) (tab : TabOk W c m.tab) (tn : (m.tab.length : Int) = m.n)
    (pre : ∃ k : Nat, k ≤ W.h ∧ m.wl = k ∧ m.wb = ((c.st.bt.toNat / 2 ^ (W.h - k) : Nat) : Int)) {p q : List Rf} (ap : lst W m.wl m.wb = p ++ m.ap :: q) (apd : W.dead m.ap.id = false) (lt : lessK m.ap.rk m.ap.n c.tr c.tn) (hk : m.lk = false) :
    ∃ D x, Chase m.tab m.wl m.wb D m.ap.rk m.ap.n (q.headD zR) (some x) ∧ D ≤ W.L.length + 2 ∧
      (InvW W c (goesF c m (some x)) ∨ FinW W c (goesF c m (some x))) ∧ muW W c (goesF c m (some x)) < muW W c m := by
  have hap : m.ap ∈ lst W m.wl m.wb := by rw [ap]; simp
  have hne3 : m.ap.rk ≠ 3 := by unfold lessK at lt; omega
  have htl := post_tail hW ap hne3
  obtain ⟨D, x, mid, rest, f1, f2, f3, f4, f5⟩ := chase_w hW tab ap ⟨_, htl, tail_noW hW tab⟩
  have hql : q.length ≤ W.L.length + 2 := by have := lst_len W m.wl m.wb; rw [ap] at this; simp at this; omega
  refine ⟨D, x, f4, by omega, ?_⟩
  have hris := lst_ris hW m.wl m.wb
  have hxl : x ∈ lst W m.wl m.wb := by rw [ap, f1]; simp
  have hax : lessK m.ap.rk m.ap.n x.rk x.n := by
    rw [ap, List.pairwise_append] at hris
    exact (List.pairwise_cons.1 hris.2.1).1 x (by rw [f1]; simp)
  have mu0 := mu_lt (W := W) ov hk lt
  simp only [goesF]
  by_cases k1 : lessK x.rk x.n c.tr c.tn
  · rw [if_pos k1]
    refine ⟨.inl ⟨ov, n0, n64, tab, tn, pre, ⟨_, _, ap⟩, apd, .inl lt, fun _ => ⟨lt, f3, hax, k1, p ++ m.ap :: mid, rest, ?_⟩⟩, ?_⟩
    · show lst W m.wl m.wb = _
      rw [ap, f1]; simp
    · rw [mu0, mu_lk (m := { m with lk := true, to := x }) ov rfl]
      show 2 * (rankW W c.tr c.tn - rankW W m.ap.rk m.ap.n) + 2 * m.wl.toNat + 2 * (64 - m.n.toNat) < _
      omega
  · rw [if_neg k1]
    by_cases k2 : 0 < m.wl
    · rw [if_pos k2]
      have h2 := lst_half k2 hap
      obtain ⟨p', q', hs'⟩ := List.append_of_mem h2
      refine ⟨.inl ⟨ov, n0, n64, tab, tn, ?_, ⟨_, _, hs'⟩, apd, .inl lt, fun e => by cases e⟩, ?_⟩
      · obtain ⟨k, j1, j2, j3⟩ := pre
        refine ⟨k - 1, by omega, by show m.wl - 1 = _; omega, ?_⟩
        show ((m.wb.toNat / 2 : Nat) : Int) = _
        rw [j3, Int.toNat_natCast, Nat.div_div_eq_div_mul, ← Nat.pow_succ]
        congr 3
        omega
      · rw [mu0, mu_lt (m := { m with wl := m.wl - 1, wb := ((m.wb.toNat / 2 : Nat) : Int), lk := false }) ov rfl lt]
        show 2 * (rankW W c.tr c.tn - rankW W m.ap.rk m.ap.n) + 1 + 2 * (m.wl - 1).toNat + 2 * (64 - m.n.toNat) < _
        omega
    · rw [if_neg k2]
      obtain ⟨k, j1, j2, j3⟩ := pre
      have k0 : k = 0 := by omega
      subst k0
      have w0 : m.wl = 0 := by omega
      have b0 : m.wb = 0 := by rw [j3, Nat.sub_zero, Nat.div_eq_of_lt hb]; rfl
      refine ⟨.inr ⟨rfl, rfl, hk, n0, n64, tab, tn, w0, b0, lt, apd, rfl, by rw [w0, b0] at f3; exact f3, k1, rfl, p, mid, rest, by rw [w0, b0, f1] at ap; exact ap, f2⟩, ?_⟩
      rw [mu0, mu_ov (m := { m with ov := true, res := ⟨0, 0, m.ap, x, _⟩ }) rfl]
      show 2 * (rankW W c.tr c.tn - rankW W m.ap.rk m.ap.n) + 2 * (64 - m.n.toNat) < _
      omega
/-- It is told what the world answers. -/
theorem step_w {W : Wd} {c : Cf} {m : Mm} (hW : OkW W) (ht : c.tr = 2) (hb : c.st.bt.toNat < 2 ^ W.h) (h : InvW W c m) :
    ∃ D x, Chase m.tab m.wl m.wb D (curF m).rk (curF m).n (ansW W (curF m).id m.wl m.wb).r x ∧ D ≤ W.L.length + 70 ∧
      (((InvW W c (tellF c m (ansW W (curF m).id m.wl m.wb) x) ∨ FinW W c (tellF c m (ansW W (curF m).id m.wl m.wb) x)) ∧ muW W c (tellF c m (ansW W (curF m).id m.wl m.wb) x) < muW W c m) ∨ BusyW W (tellF c m (ansW W (curF m).id m.wl m.wb) x)) := by
  have hn64 := h.n64
  have hn0 := h.n0
  have htn := h.tn
  cases hk : m.lk with
  | false =>
    have hcur : curF m = m.ap := by simp [curF, hk]
    rw [hcur]
    obtain ⟨p, q, ap⟩ := h.ap
    rw [ansW_at hW ap, h.apd]
    by_cases lt : lessK m.ap.rk m.ap.n c.tr c.tn
    · obtain ⟨D, x, g1, g2, g3, g4⟩ := goes_w hW ht hb h.ov h.n0 h.n64 h.tab h.tn h.pre ap h.apd lt hk
      refine ⟨D, some x, g1, by omega, .inl ?_⟩
      rw [show tellF c m ⟨if false = true then 3 else 1, false, p.getLastD zR, q.headD zR, .slice none 0 0⟩ (some x) = goesF c m (some x) by simp [tellF, h.ov, hk, lt]]
      exact ⟨g3, g4⟩
    · obtain ⟨D, x, g1, g2⟩ := chase_ex m.tab m.wl m.wb (cnt m.tab (q.headD zR) + 1) m.ap.rk m.ap.n (q.headD zR) (by omega)
      have hcn : cnt m.tab (q.headD zR) ≤ m.tab.length := List.length_filter_le _ _
      refine ⟨D, x, g1, by omega, .inl ?_⟩
      have hpne : p ≠ [] := by
        rintro rfl
        unfold lst at ap
        rw [List.nil_append] at ap
        obtain ⟨e, _⟩ := List.cons.inj ap
        exact lt (by rw [← e]; unfold lessK headR; left; show (1 : Int) < _; omega)
      obtain ⟨p', z, rfl⟩ : ∃ p' z, p = p' ++ [z] := ⟨p.dropLast, p.getLast hpne, (List.dropLast_concat_getLast hpne).symm⟩
      have ap' : lst W m.wl m.wb = p' ++ z :: (m.ap :: q) := by rw [ap]; simp
      have hz : z ∈ lst W m.wl m.wb := by rw [ap']; simp
      have hza : lessK z.rk z.n m.ap.rk m.ap.n := by
        have hris := lst_ris hW m.wl m.wb
        rw [ap', List.pairwise_append] at hris
        exact (List.pairwise_cons.1 hris.2.1).1 m.ap (by simp)
      have hall : ∀ i, W.dead i = false := by rcases h.lf with g | g; exact absurd g lt; exact g
      rw [show tellF c m ⟨if false = true then 3 else 1, false, (p' ++ [z]).getLastD zR, q.headD zR, .slice none 0 0⟩ x = { m with ap := z } by
        simp [tellF, h.ov, hk, lt, lst_okK hW hz, hza]]
      refine ⟨.inl ⟨h.ov, h.n0, h.n64, h.tab, h.tn, h.pre, ⟨_, _, ap'⟩, hall _, .inr hall, fun e => by rw [show ({ m with ap := z } : Mm).lk = m.lk from rfl, hk] at e; cases e⟩, ?_⟩
      have r1 := rank_lt (lst_all hW hz) hza lessK_irr hza
      rw [mu_ge h.ov hk lt]
      by_cases lz : lessK z.rk z.n c.tr c.tn
      · rw [mu_lt (m := { m with ap := z }) h.ov hk lz]
        show 2 * (rankW W c.tr c.tn - rankW W z.rk z.n) + 1 + 2 * m.wl.toNat + 2 * (64 - m.n.toNat) < _
        omega
      · rw [mu_ge (m := { m with ap := z }) h.ov hk lz]
        show rankW W z.rk z.n + _ + 2 + 2 * m.wl.toNat + 2 * (64 - m.n.toNat) < _
        omega
  | true =>
    have hcur : curF m = m.to := by simp [curF, hk]
    rw [hcur]
    obtain ⟨l1, l2, l3, l4, p, q, l5⟩ := h.lk hk
    rw [ansW_at hW l5]
    have hto : m.to ∈ lst W m.wl m.wb := by rw [l5]; simp
    obtain ⟨p0, q0, ap0⟩ := h.ap
    have hap : m.ap ∈ lst W m.wl m.wb := by rw [ap0]; simp
    have r1 := rank_lt (lst_all hW hap) l3 lessK_irr l3
    have r2 := rank_lt (lst_all hW hto) l4 lessK_irr l4
    have mu0 := mu_lk (W := W) (c := c) h.ov hk
    cases hd : W.dead m.to.id with
    | false =>
      obtain ⟨D, x, g1, g2, g3, g4⟩ := goes_w (m := { m with ap := m.to, lk := false }) hW ht hb h.ov h.n0 h.n64 h.tab h.tn h.pre l5 hd l4 rfl
      refine ⟨D, some x, g1, by omega, .inl ?_⟩
      rw [show tellF c m ⟨if false = true then 3 else 1, false, p.getLastD zR, q.headD zR, .slice none 0 0⟩ (some x) = goesF c { m with ap := m.to, lk := false } (some x) by simp [tellF, h.ov, hk]]
      refine ⟨g3, Nat.lt_trans g4 ?_⟩
      rw [mu0, mu_lt (m := { m with ap := m.to, lk := false }) h.ov rfl l4]
      show 2 * (rankW W c.tr c.tn - rankW W m.to.rk m.to.n) + 1 + 2 * m.wl.toNat + 2 * (64 - m.n.toNat) < _
      omega
    | true =>
      obtain ⟨D, x, g1, g2⟩ := chase_ex m.tab m.wl m.wb (cnt m.tab (q.headD zR) + 1) m.to.rk m.to.n (q.headD zR) (by omega)
      have hcn : cnt m.tab (q.headD zR) ≤ m.tab.length := List.length_filter_le _ _
      refine ⟨D, x, g1, by omega, ?_⟩
      obtain ⟨t1, t2⟩ := tab_keep h.tab l2 l5 hd h.pre
      by_cases k64 : 64 ≤ m.n
      · right
        rw [show tellF c m ⟨if true = true then 3 else 1, false, p.getLastD zR, q.headD zR, .slice none 0 0⟩ x = busy (keepC m m.to (q.headD zR)) by simp [tellF, h.ov, hk, k64]]
        refine ⟨rfl, rfl, ?_⟩
        have := tab_many hW t1
        omega
      · left
        rw [show tellF c m ⟨if true = true then 3 else 1, false, p.getLastD zR, q.headD zR, .slice none 0 0⟩ x = { keepC m m.to (q.headD zR) with n := m.n + 1, lk := false } by simp [tellF, h.ov, hk, k64]]
        refine ⟨.inl ⟨h.ov, by show 0 ≤ m.n + 1; omega, by show m.n + 1 ≤ 64; omega, t1, by show ((upd m.tab _ _).length : Int) = m.n + 1; rw [t2]; omega, h.pre, ⟨_, _, ap0⟩, h.apd, .inl l1, fun e => by cases e⟩, ?_⟩
        rw [mu0, mu_lt (m := { keepC m m.to (q.headD zR) with n := m.n + 1, lk := false }) h.ov rfl l1]
        show 2 * (rankW W c.tr c.tn - rankW W m.ap.rk m.ap.n) + 1 + 2 * m.wl.toNat + 2 * (64 - (m.n + 1).toNat) < _
        omega
/-- It is told that who was found is dead. -/
theorem dead_w {W : Wd} {c : Cf} {m : Mm} (hW : OkW W) (ht : c.tr = 2) (hb : c.st.bt.toNat < 2 ^ W.h) (h : FinW W c m) (hd : W.dead m.res.r.id = true) :
    (InvW W c (deadF m (ansW W m.res.r.id 0 0)) ∧ muW W c (deadF m (ansW W m.res.r.id 0 0)) < muW W c m) ∨ BusyW W (deadF m (ansW W m.res.r.id 0 0)) := by
  have hn64 := h.n64
  have hn0 := h.n0
  have htn := h.tn
  obtain ⟨p, mid, q, sp, hmid⟩ := h.sp
  have sp' : lst W 0 0 = (p ++ m.ap :: mid) ++ m.res.r :: q := by rw [sp]; simp
  rw [ansW_at hW sp', hd]
  have pre : ∃ k : Nat, k ≤ W.h ∧ (0 : Int) = k ∧ (0 : Int) = ((c.st.bt.toNat / 2 ^ (W.h - k) : Nat) : Int) := ⟨0, Nat.zero_le _, rfl, by rw [Nat.sub_zero, Nat.div_eq_of_lt hb]; rfl⟩
  obtain ⟨t1, t2⟩ := tab_keep h.tab h.nw sp' hd pre
  have kt : (keepC m m.res.r (q.headD zR)).tab = upd m.tab ⟨m.res.r.id, 0, 0⟩ (q.headD zR) := by unfold keepC; rw [h.wl, h.wb]
  by_cases k64 : 64 ≤ m.n
  · right
    rw [show deadF m ⟨if true = true then 3 else 1, false, (p ++ m.ap :: mid).getLastD zR, q.headD zR, .slice none 0 0⟩ = busy { keepC m m.res.r (q.headD zR) with ov := false, res := zRes } by simp [deadF, h.ov, h.e, k64]]
    refine ⟨rfl, rfl, ?_⟩
    have := tab_many hW t1
    omega
  · left
    rw [show deadF m ⟨if true = true then 3 else 1, false, (p ++ m.ap :: mid).getLastD zR, q.headD zR, .slice none 0 0⟩ = { keepC m m.res.r (q.headD zR) with ov := false, res := zRes, n := m.n + 1 } by simp [deadF, h.ov, h.e, k64]]
    have hap : m.ap ∈ lst W 0 0 := by rw [sp]; simp
    have r2 := rank_lt hap h.lf lessK_irr h.lf
    refine ⟨⟨rfl, by show 0 ≤ m.n + 1; omega, by show m.n + 1 ≤ 64; omega, ?_, ?_, ?_, ⟨p, mid ++ m.res.r :: q, ?_⟩, h.apd, .inl h.lf, ?_⟩, ?_⟩
    · show TabOk W c (keepC m m.res.r (q.headD zR)).tab
      rw [kt]; exact t1
    · show ((keepC m m.res.r (q.headD zR)).tab.length : Int) = m.n + 1
      rw [kt, t2]; omega
    · show ∃ k : Nat, k ≤ W.h ∧ m.wl = k ∧ m.wb = _
      rw [h.wl, h.wb]; exact pre
    · show lst W m.wl m.wb = p ++ m.ap :: _
      rw [h.wl, h.wb]; exact sp
    · intro e
      rw [show ({ keepC m m.res.r (q.headD zR) with ov := false, res := zRes, n := m.n + 1 } : Mm).lk = m.lk from rfl, h.lk] at e
      cases e
    · rw [mu_ov h.ov, mu_lt (m := { keepC m m.res.r (q.headD zR) with ov := false, res := zRes, n := m.n + 1 }) rfl h.lk h.lf]
      show 2 * (rankW W c.tr c.tn - rankW W m.ap.rk m.ap.n) + 1 + 2 * m.wl.toNat + 2 * (64 - (m.n + 1).toNat) < _
      rw [h.wl]
      simp only [Int.toNat_zero]
      omega
/-- At first. -/
theorem inv_w0 {W : Wd} {c : Cf} (hW : OkW W) (hh : c.h = W.h) (hln : c.st.ln = c.h) (hbt : 0 ≤ c.st.bt) (hs : c.st ∈ lst W c.st.ln c.st.bt) (hd : W.dead c.st.id = false) (hl : lessK c.st.rk c.st.n c.tr c.tn ∨ ∀ i, W.dead i = false) : InvW W c (m0 c) := by
  obtain ⟨p, q, e⟩ := List.append_of_mem hs
  refine ⟨rfl, by simp [m0], by simp [m0], ⟨fun e he => by simp [m0] at he, by simp [m0], fun e he => by simp [m0] at he⟩, by simp [m0], ⟨W.h, Nat.le_refl _, by show c.st.ln = _; omega, ?_⟩, ⟨p, q, e⟩, hd, hl, fun e => by simp [m0] at e⟩
  show c.st.bt = _
  rw [Nat.sub_self, Nat.pow_zero, Nat.div_one]
  omega
theorem mu_w0 {W : Wd} {c : Cf} (hW : OkW W) (ht : c.tr = 2) (hh : c.h = W.h) (hln : c.st.ln = c.h) (hs : c.st ∈ lst W c.st.ln c.st.bt) : muW W c (m0 c) ≤ 3 * (W.L.length + 2) + 2 * W.h + 127 := by
  have hT : rankW W c.tr c.tn ≤ W.L.length + 1 := rank_le (r := tailR W.h) (by simp [lst]) (by rw [ht]; simp [tailR, lessK])
  have hA : rankW W c.st.rk c.st.n ≤ W.L.length + 1 := rank_le (lst_all hW hs) lessK_irr
  have hw : (m0 c).wl.toNat = W.h := by show c.st.ln.toNat = _; rw [hln, hh]; rfl
  by_cases lt : lessK c.st.rk c.st.n c.tr c.tn
  · rw [mu_lt (m := m0 c) rfl rfl lt, hw]
    show 2 * (_ - rankW W c.st.rk c.st.n) + 1 + 2 * W.h + 2 * (64 - (0 : Int).toNat) ≤ _
    simp only [Int.toNat_zero]
    omega
  · rw [mu_ge (m := m0 c) rfl rfl lt, hw]
    show rankW W c.st.rk c.st.n + _ + 2 + 2 * W.h + 2 * (64 - (0 : Int).toNat) ≤ _
    simp only [Int.toNat_zero]
    omega
/-- While it goes on. -/
theorem mu_go {W : Wd} {c : Cf} {m : Mm} (hW : OkW W) (h : InvW W c m) : 2 ≤ muW W c m ∧ (m.n = 0 → 130 ≤ muW W c m) := by
  obtain ⟨p0, q0, ap0⟩ := h.ap
  have hap : m.ap ∈ lst W m.wl m.wb := by rw [ap0]; simp
  have key : 2 + 2 * (64 - m.n.toNat) ≤ muW W c m := by
    cases hk : m.lk with
    | true =>
      have l1 := (h.lk hk).1
      have r1 := rank_lt (lst_all hW hap) l1 lessK_irr l1
      rw [mu_lk h.ov hk]
      omega
    | false =>
      by_cases lt : lessK m.ap.rk m.ap.n c.tr c.tn
      · have r1 := rank_lt (lst_all hW hap) lt lessK_irr lt
        rw [mu_lt h.ov hk lt]; omega
      · rw [mu_ge h.ov hk lt]; omega
  exact ⟨by omega, fun e => by rw [e] at key; simpa using key⟩
end Go.Proofs.Ytonnegfkokghdaa
