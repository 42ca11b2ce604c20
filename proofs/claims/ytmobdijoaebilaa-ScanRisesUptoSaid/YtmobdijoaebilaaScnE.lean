/-
  The machine of package scan: what it tells rises and lies in its range (plain law).
-/
import Derived.Test.YtmobdijoaebilaaScnD
set_option linter.unusedSimpArgs false
set_option linter.unusedVariables false
set_option maxRecDepth 100000
set_option maxHeartbeats 2000000
namespace Go.Proofs.Ytmobdijoaebilaa
open Go.Sim Go.Sim.Bt

def inN (n : Int) : Prop := 0 ≤ n ∧ n ≤ 18446744073709551615
structure Rg (ms : Mm) : Prop where
  tab : ∀ e ∈ ms.tab, inN e.2.n
  res : inN ms.res.r.n
theorem in0 : inN 0 := by unfold inN; omega
theorem rg_busy {m : Mm} (h : Rg m) : Rg (busy m) := ⟨h.tab, in0⟩
theorem rg_again {c : Cf} {m : Mm} (h : Rg m) : Rg (againC c m) := by
  unfold againC
  split
  · exact rg_busy h
  · exact ⟨h.tab, h.res⟩
theorem rg_keep {m : Mm} (h : Rg m) (r x : Rf) (hx : inN x.n) : Rg (keepC m r x) := by
  refine ⟨fun e he => ?_, h.res⟩
  simp only [keepC, upd] at he
  split at he
  · rcases List.mem_or_eq_of_mem_set he with g | rfl
    · exact h.tab e g
    · exact hx
  · rcases List.mem_append.1 he with g | g
    · exact h.tab e g
    · rw [List.mem_singleton] at g; subst g; exact hx
theorem rg_goes {c : Cf} {m : Mm} (h : Rg m) {x : Option Rf} (hx : ∀ r, x = some r → inN r.n) : Rg (goesF c m x) := by
  cases x with
  | none => exact rg_again h
  | some r =>
    simp only [goesF]
    split
    · exact ⟨h.tab, h.res⟩
    · split
      · exact ⟨h.tab, h.res⟩
      · exact ⟨h.tab, hx r rfl⟩
theorem rg_tell {c : Cf} {m : Mm} (h : Rg m) {a : Ans} (ha : inN a.r.n) {x : Option Rf} (hx : ∀ r, x = some r → inN r.n) : Rg (tellF c m a x) := by
  unfold tellF
  split
  · exact h
  · split
    · split
      · split
        · exact rg_goes h hx
        · split
          · exact ⟨h.tab, h.res⟩
          · exact rg_again h
      · split
        · exact rg_again (rg_keep h _ _ ha)
        · exact rg_again h
    · split
      · exact rg_goes (m := { m with ap := m.to, lk := false }) ⟨h.tab, h.res⟩ hx
      · split
        · split
          · exact rg_busy (rg_keep h _ _ ha)
          · have := rg_keep h m.to a.r ha
            exact ⟨this.tab, this.res⟩
        · exact rg_again h
theorem rg_dead {m : Mm} (h : Rg m) {a : Ans} (ha : inN a.r.n) : Rg (deadF m a) := by
  have hk := rg_keep h m.res.r a.r ha
  unfold deadF
  split
  · simp only []
    split
    · exact ⟨hk.tab, in0⟩
    · exact ⟨hk.tab, in0⟩
  · exact h
theorem chase_in {tab : List (Wk × Rf)} {wl wb : Int} {d : Nat} {ar an : Int} {r : Rf} {x : Option Rf} (h : Chase tab wl wb d ar an r x) (ht : ∀ e ∈ tab, inN e.2.n) (hr : inN r.n) : ∀ y, x = some y → inN y.n := by
  induction h with
  | bad _ => intro y e; cases e
  | back _ _ => intro y e; cases e
  | here k _ _ => intro y e; cases e; exact hr
  | next _ _ _ he _ ih => exact ih (ht _ (List.mem_of_getElem? he))
abbrev RiseI (l : List It) : Prop := l.Pairwise fun a b => a.key < b.key
structure Rb (c : SC) (m : Sc) : Prop where
  rg : Rg m.ms
  hsr : m.ov = false → m.hs = true → m.sr = m.fr ∧ m.sn = m.fn
  low : ¬ lessK m.fr m.fn 2 c.low
  frk : m.fr = 2 ∨ (m.fr = 3 ∧ m.fn = 0)
  its : RiseI m.its
  rng : ∀ it ∈ m.its, c.low ≤ it.key ∧ it.key ≤ c.high ∧ lessK 2 it.key m.fr m.fn
  ri : RiseI m.ri
  rir : ∀ it ∈ m.ri, c.low ≤ it.key ∧ it.key ≤ c.high
  e : m.ov = true → m.e ≠ 0 → m.ri = []
structure Rz (c : SC) (m : Sc) : Prop where
  b : Rb c m
  x : handS m → ¬ lessK m.x.rk m.x.n m.fr m.fn ∧ m.x.n ≤ c.high ∧ inN m.x.n
theorem rz_ends {c : SC} {m : Sc} (h : Rb c m) (e : Int) : Rz c (endsS m e []) :=
  ⟨⟨h.rg, (fun e => by cases e), h.low, h.frk, h.its, h.rng, .nil, (fun it hi => by simp [endsS] at hi), fun _ _ => rfl⟩, fun e => by have := e.1; cases this⟩
theorem rz_takes {c : SC} {m : Sc} (h : Rb c m) {x : Rf} {so : Bool} (hx1 : ¬ lessK x.rk x.n m.fr m.fn) (hx2 : inN x.n) (hov : m.ov = false) : Rz c (takesS c m x so) := by
  unfold takesS
  split
  · exact ⟨⟨h.rg, (fun e => by cases e), h.low, h.frk, h.its, h.rng, h.its, (fun it hi => ⟨(h.rng it hi).1, (h.rng it hi).2.1⟩), fun _ e => absurd rfl e⟩, fun e => by have := e.1; cases this⟩
  · rename_i k
    refine ⟨⟨h.rg, ?_, h.low, h.frk, h.its, h.rng, h.ri, h.rir, fun e => by rw [show ({ m with x := x, so := so, hs := so && m.hs } : Sc).ov = m.ov from rfl, hov] at e; cases e⟩, fun _ => ⟨hx1, ?_, hx2⟩⟩
    · intro ho hs
      refine h.hsr ho ?_
      cases so
      · simp at hs
      · simpa using hs
    · have := h.frk
      unfold lessK at *
      show x.n ≤ c.high
      omega
theorem rz_found {c : SC} {m : Sc} (h : Rb c m) (hov : m.ov = false) (hs : m.hs = true) (so : m.so = false) (hg : InvG (c.sk m.sr m.sn) m.ms) : Rz c (foundS c m) := by
  unfold foundS
  split
  · exact ⟨h, fun e => absurd ⟨hs, so⟩ e.2.2⟩
  · rename_i ho
    have ho : m.ms.ov = true := by cases hb : m.ms.ov; exact absurd hb ho; rfl
    split
    · exact rz_ends h _
    · rename_i he
      have he : m.ms.res.e = 0 := by apply Classical.byContradiction; intro g; exact he g
      obtain ⟨e1, e2⟩ := h.hsr hov hs
      refine rz_takes h ?_ h.rg.res hov
      have := (hg ho he).1
      rw [← e1, ← e2]
      exact this
theorem rg_m0 (c : Cf) : Rg (m0 c) := ⟨fun e he => by simp [m0] at he, in0⟩
theorem rz_again {c : SC} {m : Sc} (h : Rb c m) (hov : m.ov = false) : Rz c (againS c m) := by
  unfold againS
  split
  · exact rz_ends h _
  · exact ⟨⟨rg_m0 _, fun _ _ => ⟨rfl, rfl⟩, h.low, h.frk, h.its, h.rng, h.ri, h.rir, fun e => by rw [show ({ m with tr := m.tr + 1, hs := true, sr := m.fr, sn := m.fn, ms := m0 (c.sk m.fr m.fn), so := false } : Sc).ov = m.ov from rfl, hov] at e; cases e⟩, fun e => absurd ⟨rfl, rfl⟩ e.2.2⟩
theorem next_key {n : Int} (h : inN n) : (n = 18446744073709551615 ∧ nextR n = 3 ∧ nextN n = 0) ∨ (n < 18446744073709551615 ∧ nextR n = 2 ∧ nextN n = n + 1) := by
  unfold inN at h
  unfold nextR nextN
  by_cases k : n = 18446744073709551615
  · left; rw [if_pos k, if_pos k]; exact ⟨k, rfl, rfl⟩
  · right; rw [if_neg k, if_neg k]; exact ⟨by omega, rfl, wrapu64 (by omega) (by omega)⟩
/-- Who was at hand is there: what is told then. (Its search is no more looked at.) -/
theorem rz_has1 {c : SC} {m : Sc} (h : Rz c m) (hh : handS m) (hx : m.x.rk = 2) (a : Ans) (al : List (List Value)) : Rb c { has1 m a al with hs := false } ∧ (∀ y : Rf, lessK m.x.rk m.x.n y.rk y.n → inN y.n → ¬ lessK y.rk y.n (nextR m.x.n) (nextN m.x.n)) := by
  obtain ⟨x1, x2, x3⟩ := h.x hh
  have h := h.b
  have hk := next_key x3
  have hfr := h.frk
  have hlow := h.low
  have low' : ¬ lessK (nextR m.x.n) (nextN m.x.n) 2 c.low := by unfold lessK at *; omega
  have frk' : nextR m.x.n = 2 ∨ (nextR m.x.n = 3 ∧ nextN m.x.n = 0) := by omega
  have old : ∀ it ∈ m.its, it.key < m.x.n := by
    intro it hi
    have := (h.rng it hi).2.2
    unfold lessK at *
    omega
  have lt' : ∀ k : Int, k ≤ m.x.n → lessK 2 k (nextR m.x.n) (nextN m.x.n) := by intro k hk; unfold lessK; omega
  refine ⟨?_, fun y hy hyn => ?_⟩
  · unfold has1
    split
    · refine ⟨h.rg, (fun _ e => by cases e), low', frk', ?_, (fun it hi => ?_), h.ri, h.rir, h.e⟩
      · show RiseI (m.its ++ [⟨m.x.n, al⟩])
        rw [RiseI, List.pairwise_append]
        refine ⟨h.its, List.pairwise_singleton _ _, fun a ha b hb => ?_⟩
        rw [List.mem_singleton] at hb
        subst hb
        exact old a ha
      · rcases List.mem_append.1 hi with hi | hi
        · have := h.rng it hi
          exact ⟨this.1, this.2.1, lt' _ (by have := old it hi; omega)⟩
        · rw [List.mem_singleton] at hi
          subst hi
          refine ⟨?_, x2, lt' _ (Int.le_refl _)⟩
          unfold lessK at *
          show c.low ≤ m.x.n
          omega
    · refine ⟨h.rg, (fun _ e => by cases e), low', frk', h.its, (fun it hi => ?_), h.ri, h.rir, h.e⟩
      have := h.rng it hi
      exact ⟨this.1, this.2.1, lt' _ (by have := old it hi; omega)⟩
  · unfold lessK inN at *
    omega
theorem takes_hs {c : SC} {m : Sc} (x : Rf) : takesS c m x false = takesS c { m with hs := false } x false := by
  unfold takesS endsS
  simp
theorem rb_hs {c : SC} {m : Sc} (h : Rb c { m with hs := false }) (hov : m.ov = false) : Rz c (againS c m) := by
  unfold againS
  split
  · have := rz_ends h 121
    exact ⟨⟨this.b.rg, (fun e => by cases e), this.b.low, this.b.frk, this.b.its, this.b.rng, this.b.ri, this.b.rir, this.b.e⟩, fun e => by have := e.1; cases this⟩
  · exact ⟨⟨rg_m0 _, fun _ _ => ⟨rfl, rfl⟩, h.low, h.frk, h.its, h.rng, h.ri, h.rir, fun e => by rw [show ({ m with tr := m.tr + 1, hs := true, sr := m.fr, sn := m.fn, ms := m0 (c.sk m.fr m.fn), so := false } : Sc).ov = m.ov from rfl, hov] at e; cases e⟩, fun e => absurd ⟨rfl, rfl⟩ e.2.2⟩
theorem rz_tell {c : SC} {m : Sc} {N : Nat} (h : Rz c m) (hi : InvSc c m N) {a : Ans} (ha : inN a.r.n) (al : List (List Value)) {D : Nat} {x : Option Rf} (hc : Chase m.ms.tab m.ms.wl m.ms.wb D (curF m.ms).rk (curF m.ms).n a.r x) : Rz c (tellS c m a al x) := by
  unfold tellS
  split
  · exact h
  · rename_i h1
    have hov : m.ov = false := by cases hb : m.ov; rfl; exact absurd (.inl hb) h1
    have hw : m.w = false := by cases hb : m.w; rfl; exact absurd (.inr hb) h1
    have hb := h.b
    split
    · rename_i h2
      exact rz_found (m := { m with ms := tellF (c.sk m.sr m.sn) m.ms a x }) ⟨rg_tell hb.rg ha (chase_in hc hb.rg.tab ha), hb.hsr, hb.low, hb.frk, hb.its, hb.rng, hb.ri, hb.rir, hb.e⟩ hov h2.1 h2.2 (invG_tell hi.g a (chase_ok hc))
    · rename_i h2
      have hh : handS m := ⟨hov, hw, h2⟩
      have hx := hi.x hh
      unfold gotS
      split
      · obtain ⟨r1, r2⟩ := rz_has1 h hh hx a al
        have ov1 : (has1 m a al).ov = false := by unfold has1; split <;> exact hov
        unfold hasS
        split
        · exact rz_ends hb _
        · split
          · rename_i k
            rw [takes_hs]
            exact rz_takes r1 (r2 a.r k ha) ha ov1
          · exact rb_hs r1 ov1
      · split
        · rename_i k3
          exact rz_found (m := { m with ms := deadF m.ms a, so := false }) ⟨rg_dead hb.rg ha, hb.hsr, hb.low, hb.frk, hb.its, hb.rng, hb.ri, hb.rir, hb.e⟩ hov (hi.so k3.2) rfl (invG_dead hi.g a)
        · exact ⟨⟨hb.rg, hb.hsr, hb.low, hb.frk, hb.its, hb.rng, hb.ri, hb.rir, hb.e⟩, fun e => by have := e.2.1; cases this⟩
theorem rz_wake {c : SC} {m : Sc} (h : Rz c m) : Rz c (wakeS c m) := by
  unfold wakeS
  split
  · rename_i g
    have hb := h.b
    exact rz_again (m := { m with w := false }) ⟨hb.rg, hb.hsr, hb.low, hb.frk, hb.its, hb.rng, hb.ri, hb.rir, hb.e⟩ g.1
  · exact h
theorem rz_new (c : SC) : Rz c (newS c) := by
  have hb : Rb c (mS c) := ⟨rg_m0 _, fun _ _ => ⟨rfl, rfl⟩, lessK_irr, .inl rfl, .nil, (fun it hi => by simp [mS] at hi), .nil, (fun it hi => by simp [mS] at hi), fun e => by cases e⟩
  unfold newS
  split
  · exact rz_ends hb 0
  · exact ⟨hb, fun e => absurd ⟨rfl, rfl⟩ e.2.2⟩
end Go.Proofs.Ytmobdijoaebilaa
