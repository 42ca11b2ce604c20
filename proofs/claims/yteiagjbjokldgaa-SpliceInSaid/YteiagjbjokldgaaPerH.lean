/-
  Peers of one list without bits: each has one record at most.
-/
import Derived.Test.YteiagjbjokldgaaPerG
set_option linter.unusedSimpArgs false
set_option linter.unusedVariables false
set_option maxRecDepth 100000
set_option maxHeartbeats 2000000
namespace Go.Proofs.Yteiagjbjokldgaa
open Go.Sim Go.Sim.Bt

theorem cmpV_00 : cmpV 0 0 0 0 = 0 := by decide
theorem cmpW_0 {x r : Rc} (h1 : x.wl = 0) (h2 : x.wb = 0) (h3 : r.wl = 0) (h4 : r.wb = 0) : cmpW x r = 0 := by
  unfold cmpW
  rw [h1, h2, h3, h4]
  exact cmpV_00
def Zw (r : Rc) : Prop := r.wl = 0 ∧ r.wb = 0
theorem okV0 : okV 0 0 := ⟨0, 0, rfl, rfl, by omega, by decide⟩
theorem one_setL {p : Pr} {r : Rc} (hr : Zw r) (hp : p.L = [] ∨ ∃ x, p.L = [x] ∧ Zw x) : setL p r = if plainC p r = true then [] else [r] := by
  rcases hp with hp | ⟨x, hp, hx⟩
  · unfold setL
    rw [hp]
    cases plainC p r <;> rfl
  · have c := cmpW_0 hx.1 hx.2 hr.1 hr.2
    unfold setL
    rw [hp]
    simp only [List.foldl_cons, List.foldl_nil, setStep, c]
    cases plainC p r <;> simp
theorem setL_ok {p : Pr} {r : Rc} (hr : Zw r) (hp : p.L = [] ∨ ∃ x, p.L = [x] ∧ Zw x) : (setL p r).length ≤ 1000 ∧ ∀ y ∈ setL p r, okV y.wl y.wb := by
  rw [one_setL hr hp]
  split
  · simp
  · refine ⟨by simp, fun y hy => ?_⟩
    rw [List.mem_singleton] at hy
    subst hy
    rw [hr.1, hr.2]
    exact okV0
theorem sameF_eq {a b : Rf} (h : sameF a b = true) : a = b := by
  unfold sameF at h
  simp only [Bool.and_eq_true, decide_eq_true_eq] at h
  cases a; cases b
  simp only at h
  obtain ⟨rfl, rfl, rfl, rfl, rfl⟩ := h
  rfl
theorem sameF_self (a : Rf) : sameF a a = true := by unfold sameF; simp
/-- What a peer shows as its record. -/
structure Vw (p : Pr) (r : Rc) : Prop where
  z : Zw r
  l : p.L = [r] ∨ (p.L = [] ∧ p.en = true ∧ firstC p 0 0 = r)
  b : hasC p 0 0
theorem Vw.one {p : Pr} {r : Rc} (h : Vw p r) : p.L = [] ∨ ∃ x, p.L = [x] ∧ Zw x := by
  rcases h.l with g | ⟨g, _⟩
  · exact .inr ⟨r, g, h.z⟩
  · exact .inl g
theorem Vw.get {p : Pr} {r : Rc} (h : Vw p r) : getC p 0 0 = some r := by
  unfold getC
  rcases h.l with g | ⟨g, g2, g3⟩
  · rw [g]
    have : isW 0 0 r = true := decide_eq_true h.z
    simp only [List.find?_cons, this]
  · rw [g]
    simp only [List.find?_nil]
    rw [if_pos ⟨g2, h.b⟩, g3]
/-- A record is set: it is shown. -/
theorem Vw.set {p : Pr} {r q : Rc} (h : Vw p r) (hq : Zw q) (h0 : q.held = false → q.ha = 0 ∧ q.ho = 0) : Vw { p with L := setL p q } q := by
  refine ⟨hq, ?_, h.b⟩
  show setL p q = [q] ∨ (setL p q = [] ∧ p.en = true ∧ firstC p 0 0 = q)
  rw [one_setL hq h.one]
  split
  · rename_i k
    right
    unfold plainC at k
    simp only [Bool.and_eq_true, Bool.not_eq_true'] at k
    obtain ⟨k1, k2, k3, k4⟩ := k
    rw [hq.1, hq.2] at k2 k3
    have e1 := sameF_eq k2
    have e2 := sameF_eq k3
    obtain ⟨a1, a2⟩ := h0 k4
    refine ⟨rfl, k1, ?_⟩
    obtain ⟨wl, wb, l, r', held, ha, ho⟩ := q
    obtain ⟨z1, z2⟩ := hq
    simp only at z1 z2 e1 e2 a1 a2 k4
    subst z1 z2 e1 e2 a1 a2 k4
    unfold firstC
    split <;> rfl
  · exact .inl rfl
/-- An end, as it is made. -/
theorem Vw.end {p : Pr} (he : p.en = true) (hl : p.L = []) (hm : 0 ≤ p.me.ln) : Vw p (firstC p 0 0) := by
  refine ⟨?_, .inr ⟨hl, he, rfl⟩, ?_⟩
  · unfold firstC Zw; split <;> exact ⟨rfl, rfl⟩
  · unfold hasC; rw [if_pos he]; exact ⟨okV0, hm⟩
/-- None holds a lock of it. -/
theorem Vw.free {p : Pr} {r : Rc} (h : Vw p r) (hr : r.held = false) : p.L.any Rc.held = false := by
  rcases h.l with g | ⟨g, _⟩
  · rw [g]; simp [hr]
  · rw [g]; rfl
theorem hasC_0 {p : Pr} (he : p.en = false) (h1 : p.me.ln = 0) (h2 : p.me.bt = 0) : hasC p 0 0 := by
  unfold hasC
  rw [he, if_neg (by decide), h1, h2]
  exact ⟨okV0, okV0, by omega, by decide⟩
theorem get_none {p : Pr} (he : p.en = false) (hl : p.L = []) : getC p 0 0 = none := by
  unfold getC
  rw [hl]
  simp only [List.find?_nil]
  rw [if_neg (by rw [he]; simp)]
/-- The first record of one that is no end. -/
theorem Vw.first {p : Pr} {q : Rc} (he : p.en = false) (hl : p.L = []) (hq : Zw q) (hb : hasC p 0 0) : Vw { p with L := setL p q } q := by
  refine ⟨hq, .inl ?_, hb⟩
  show setL p q = [q]
  rw [one_setL hq (.inl hl), if_neg]
  unfold plainC
  rw [he]
  simp
/-- The record goes. -/
theorem Vw.out {p : Pr} {r : Rc} (h : Vw p r) (he : p.en = false) : unsetL p 0 0 = [] := by
  unfold unsetL
  rcases h.l with g | ⟨_, g2, _⟩
  · rw [g]
    have : isW 0 0 r = true := decide_eq_true h.z
    simp [this]
  · rw [he] at g2; cases g2
end Go.Proofs.Yteiagjbjokldgaa
