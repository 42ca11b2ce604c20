/-
  Peers with records of many lists: what they show behind a step.
-/
import Derived.Test.YteiagjbjokldgaaPerH
set_option linter.unusedSimpArgs false
set_option linter.unusedVariables false
set_option maxRecDepth 100000
set_option maxHeartbeats 2000000
namespace Go.Proofs.Yteiagjbjokldgaa
open Go.Sim Go.Sim.Bt

theorem cmpV_lexS {n b m c : Nat} : cmpV n b m c = lexc (bl n b) (bl m c) := by
  rw [lexc_lcp, bl_length, bl_length]
  unfold cmpV cmpI
  by_cases h : lcp (bl n b) (bl m c) < min n m
  · rw [if_pos h, if_pos h, bl_get (by omega), bl_get (by omega)]; rfl
  · rw [if_neg h, if_neg h]
theorem cmpW_zero {x r : Rc} (hx : okV x.wl x.wb) (hr : okV r.wl r.wb) : cmpW x r = 0 ↔ (x.wl = r.wl ∧ x.wb = r.wb) := by
  obtain ⟨n, b, e1, e2, h1, h2⟩ := hx
  obtain ⟨m, c, e3, e4, h3, h4⟩ := hr
  unfold cmpW
  rw [e1, e2, e3, e4, Int.toNat_natCast, Int.toNat_natCast, Int.toNat_natCast, Int.toNat_natCast, cmpV_lexS, lexc_zero, bl_eq h2 h4]
  omega
theorem isW_iff {wl wb : Int} {x : Rc} : isW wl wb x = true ↔ (x.wl = wl ∧ x.wb = wb) := by unfold isW; simp
/-- What a step of the insertion makes of the records found. -/
theorem step_find {r : Rc} (hr : okV r.wl r.wb) : ∀ (L : List Rc) (acc : List Rc) (fl : Bool), (∀ x ∈ L, okV x.wl x.wb) →
    (∀ wl wb, ¬ (wl = r.wl ∧ wb = r.wb) → (L.foldl (setStep r) (acc, fl)).1.find? (isW wl wb) = (acc ++ L).find? (isW wl wb)) ∧
    (fl = true → (L.foldl (setStep r) (acc, fl)).2 = true ∧ (L.foldl (setStep r) (acc, fl)).1.find? (isW r.wl r.wb) = acc.find? (isW r.wl r.wb)) ∧
    (fl = false → acc.find? (isW r.wl r.wb) = none → (L.foldl (setStep r) (acc, fl)).1.find? (isW r.wl r.wb) = if (L.foldl (setStep r) (acc, fl)).2 = true then some r else none)
  | [], acc, fl, _ => by
    refine ⟨fun wl wb _ => by simp, fun h => by simp [h], fun h g => by simp [h, g]⟩
  | x :: L, acc, fl, hL => by
    have hx := hL x (by simp)
    have hz := cmpW_zero hx hr
    have hrr : isW r.wl r.wb r = true := isW_iff.2 ⟨rfl, rfl⟩
    obtain ⟨s1, s2, s3⟩ := step_find hr L (setStep r (acc, fl) x).1 (setStep r (acc, fl) x).2 fun y hy => hL y (by simp [hy])
    have e : List.foldl (setStep r) (acc, fl) (x :: L) = List.foldl (setStep r) ((setStep r (acc, fl) x).1, (setStep r (acc, fl) x).2) L := rfl
    rw [e]
    -- the step
    by_cases hc : cmpW x r = 0
    · have hxw : isW r.wl r.wb x = true := isW_iff.2 (hz.1 hc)
      cases fl with
      | true =>
        have st : setStep r (acc, true) x = (acc, true) := by unfold setStep; simp [hc]
        rw [st] at s1 s2 s3 ⊢
        refine ⟨fun wl wb hw => ?_, fun _ => s2 rfl, fun h => by cases h⟩
        rw [s1 wl wb hw, List.find?_append, List.find?_append, List.find?_cons]
        have : isW wl wb x = false := by
          cases hb : isW wl wb x
          · rfl
          · exact absurd ⟨(isW_iff.1 hb).1.symm.trans (hz.1 hc).1, (isW_iff.1 hb).2.symm.trans (hz.1 hc).2⟩ hw
        rw [this]
      | false =>
        have st : setStep r (acc, false) x = (acc ++ [r], true) := by unfold setStep; simp [hc]
        rw [st] at s1 s2 s3 ⊢
        refine ⟨fun wl wb hw => ?_, (fun h => by cases h), fun _ ha => ?_⟩
        · rw [s1 wl wb hw]
          simp only [List.find?_append, List.find?_cons, List.find?_nil]
          have h1 : isW wl wb x = false := by
            cases hb : isW wl wb x
            · rfl
            · exact absurd ⟨(isW_iff.1 hb).1.symm.trans (hz.1 hc).1, (isW_iff.1 hb).2.symm.trans (hz.1 hc).2⟩ hw
          have h2 : isW wl wb r = false := by
            cases hb : isW wl wb r
            · rfl
            · exact absurd ⟨(isW_iff.1 hb).1.symm, (isW_iff.1 hb).2.symm⟩ hw
          rw [h1, h2]
          simp
        · obtain ⟨q1, q2⟩ := s2 rfl
          rw [q1, if_pos rfl, q2, List.find?_append, ha]
          simp [List.find?_cons, hrr]
    · have hxw : isW r.wl r.wb x = false := by
        cases hb : isW r.wl r.wb x
        · rfl
        · exact absurd (hz.2 (isW_iff.1 hb)) hc
      by_cases hp : 0 < cmpW x r ∧ fl = false
      · obtain ⟨hp1, rfl⟩ := hp
        have st : setStep r (acc, false) x = (acc ++ [r] ++ [x], true) := by unfold setStep; simp [hc, hp1]
        rw [st] at s1 s2 s3 ⊢
        refine ⟨fun wl wb hw => ?_, (fun h => by cases h), fun _ ha => ?_⟩
        · rw [s1 wl wb hw]
          have h2 : isW wl wb r = false := by
            cases hb : isW wl wb r
            · rfl
            · exact absurd ⟨(isW_iff.1 hb).1.symm, (isW_iff.1 hb).2.symm⟩ hw
          simp only [List.find?_append, List.find?_cons, List.find?_nil, h2]
          cases acc.find? (isW wl wb) <;> cases isW wl wb x <;> simp
        · obtain ⟨q1, q2⟩ := s2 rfl
          rw [q1, if_pos rfl, q2]
          simp only [List.find?_append, ha, List.find?_cons, hrr]
          simp
      · have st : setStep r (acc, fl) x = (acc ++ [x], fl) := by
          unfold setStep
          simp only []
          rw [if_neg hp]
          simp [hc]
        rw [st] at s1 s2 s3 ⊢
        have ap : (acc ++ [x]).find? (isW r.wl r.wb) = acc.find? (isW r.wl r.wb) := by
          simp only [List.find?_append, List.find?_cons, List.find?_nil, hxw]
          simp
        refine ⟨fun wl wb hw => ?_, fun h => ?_, fun h ha => ?_⟩
        · rw [s1 wl wb hw, List.append_assoc]; rfl
        · obtain ⟨q1, q2⟩ := s2 h
          exact ⟨q1, q2.trans ap⟩
        · exact s3 h (ap.trans ha)
/-- The records found behind a setting. -/
theorem find_set {p : Pr} {r : Rc} (hL : ∀ x ∈ p.L, okV x.wl x.wb) (hr : okV r.wl r.wb) (wl wb : Int) :
    (setL p r).find? (isW wl wb) = if wl = r.wl ∧ wb = r.wb then (if plainC p r = true then none else some r) else p.L.find? (isW wl wb) := by
  obtain ⟨s1, s2, s3⟩ := step_find hr p.L [] (plainC p r) hL
  have hrr : isW r.wl r.wb r = true := isW_iff.2 ⟨rfl, rfl⟩
  unfold setL
  simp only []
  by_cases hw : wl = r.wl ∧ wb = r.wb
  · rw [if_pos hw]
    obtain ⟨rfl, rfl⟩ := hw
    cases hp : plainC p r with
    | true =>
      rw [hp] at s2
      obtain ⟨q1, q2⟩ := s2 rfl
      rw [if_pos q1, q2, if_pos rfl]
      rfl
    | false =>
      rw [hp] at s3
      have q := s3 rfl rfl
      have e : (if false = true then (none : Option Rc) else some r) = some r := rfl
      rw [e]
      split
      · rename_i h
        rw [q, if_pos h]
      · rename_i h
        rw [List.find?_append, q, if_neg h]
        simp [List.find?_cons, hrr]
  · rw [if_neg hw]
    have q := s1 wl wb hw
    rw [List.nil_append] at q
    split
    · exact q
    · rw [List.find?_append, q]
      have h2 : isW wl wb r = false := by
        cases hb : isW wl wb r
        · rfl
        · exact absurd ⟨(isW_iff.1 hb).1.symm, (isW_iff.1 hb).2.symm⟩ hw
      simp [List.find?_cons, h2]
open Classical in
/-- What a peer shows behind a setting. -/
theorem getC_set {p : Pr} {r : Rc} (hL : ∀ x ∈ p.L, okV x.wl x.wb) (hr : okV r.wl r.wb) (hc : hasC p r.wl r.wb) (h0 : r.held = false → r.ha = 0 ∧ r.ho = 0) (wl wb : Int) :
    getC { p with L := setL p r } wl wb = if wl = r.wl ∧ wb = r.wb then some r else getC p wl wb := by
  have hs := find_set (p := p) hL hr wl wb
  unfold getC
  show (match (setL p r).find? (isW wl wb) with | some r => some r | none => if p.en = true ∧ hasC p wl wb then some (firstC p wl wb) else none) = _
  rw [hs]
  by_cases hw : wl = r.wl ∧ wb = r.wb
  · rw [if_pos hw, if_pos hw]
    obtain ⟨rfl, rfl⟩ := hw
    cases hp : plainC p r with
    | false => rfl
    | true =>
      have hp' := hp
      unfold plainC at hp'
      simp only [Bool.and_eq_true, Bool.not_eq_true'] at hp'
      obtain ⟨k1, k2, k3, k4⟩ := hp'
      have e1 := sameF_eq k2
      have e2 := sameF_eq k3
      obtain ⟨a1, a2⟩ := h0 k4
      simp only [if_true]
      rw [if_pos ⟨k1, hc⟩]
      congr 1
      obtain ⟨wl, wb, l, r', held, ha, ho⟩ := r
      simp only at e1 e2 a1 a2 k4
      subst a1 a2 k4
      have : firstC p wl wb = ⟨wl, wb, (firstC p wl wb).l, (firstC p wl wb).r, false, 0, 0⟩ := by unfold firstC; split <;> rfl
      rw [this, ← e1, ← e2]
  · rw [if_neg hw, if_neg hw]
    rfl
open Classical in
/-- .. behind going out of a list. -/
theorem getC_unset {p : Pr} (he : p.en = false) (wl wb xl xb : Int) :
    getC { p with L := unsetL p xl xb } wl wb = if wl = xl ∧ wb = xb then none else getC p wl wb := by
  unfold getC unsetL
  show (match (p.L.filter fun r => !isW xl xb r).find? (isW wl wb) with | some r => some r | none => if p.en = true ∧ hasC p wl wb then some (firstC p wl wb) else none) = _
  rw [List.find?_filter]
  by_cases hw : wl = xl ∧ wb = xb
  · rw [if_pos hw]
    obtain ⟨rfl, rfl⟩ := hw
    have : (p.L.find? fun a => decide ((!isW wl wb a) = true ∧ isW wl wb a = true)) = none := by
      rw [List.find?_eq_none]
      intro x _
      cases isW wl wb x <;> simp
    rw [this]
    simp [he]
  · rw [if_neg hw]
    have : (fun a => decide ((!isW xl xb a) = true ∧ isW wl wb a = true)) = isW wl wb := by
      funext a
      cases hb : isW wl wb a
      · simp
      · have : isW xl xb a = false := by
          cases hb2 : isW xl xb a
          · rfl
          · exact absurd ⟨(isW_iff.1 hb).1.symm.trans (isW_iff.1 hb2).1, (isW_iff.1 hb).2.symm.trans (isW_iff.1 hb2).2⟩ hw
        simp [this]
    rw [this]
    rfl
theorem setL_le (p : Pr) (r : Rc) : (setL p r).length ≤ p.L.length + 1 := by
  have key : ∀ (L : List Rc) (acc : List Rc) (fl : Bool), (L.foldl (setStep r) (acc, fl)).1.length + (if (L.foldl (setStep r) (acc, fl)).2 = true then 0 else 1) ≤ acc.length + L.length + (if fl = true then 0 else 1) := by
    intro L
    induction L with
    | nil => intro acc fl; simp only [List.foldl_nil, List.length_nil, Nat.add_zero]; exact Nat.le_refl _
    | cons x L ih =>
      intro acc fl
      have e : List.foldl (setStep r) (acc, fl) (x :: L) = List.foldl (setStep r) ((setStep r (acc, fl) x).1, (setStep r (acc, fl) x).2) L := rfl
      rw [e]
      refine Nat.le_trans (ih _ _) ?_
      have : (setStep r (acc, fl) x).1.length + (if (setStep r (acc, fl) x).2 = true then 0 else 1) ≤ acc.length + 1 + (if fl = true then 0 else 1) := by
        unfold setStep
        cases fl <;> by_cases h1 : cmpW x r = 0 <;> by_cases h2 : 0 < cmpW x r <;> simp [h1, h2] <;> omega
      rw [List.length_cons]
      omega
  have := key p.L [] (plainC p r)
  unfold setL
  simp only []
  rw [List.length_nil] at this
  cases hp : plainC p r <;> rw [hp] at this
  · split
    · rename_i h
      rw [if_pos h] at this
      simp at this
      omega
    · rename_i h
      rw [if_neg h] at this
      rw [List.length_append]
      simp at this ⊢
      omega
  · split
    · rename_i h
      rw [if_pos h] at this
      simp at this
      omega
    · rename_i h
      rw [if_neg h] at this
      rw [List.length_append]
      simp at this ⊢
      omega
theorem setL_mem {p : Pr} {r y : Rc} (h : y ∈ setL p r) : y ∈ p.L ∨ y = r := by
  have key : ∀ (L : List Rc) (acc : List Rc) (fl : Bool) (y : Rc), y ∈ (L.foldl (setStep r) (acc, fl)).1 → y ∈ acc ∨ y = r ∨ y ∈ L := by
    intro L
    induction L with
    | nil => intro acc fl y hy; exact .inl hy
    | cons x L ih =>
      intro acc fl y hy
      rcases ih _ _ y hy with h | h | h
      · rcases setStep_mem r (acc, fl) x y h with h | h | h
        · exact .inl h
        · exact .inr (.inl h)
        · exact .inr (.inr (by simp [h]))
      · exact .inr (.inl h)
      · exact .inr (.inr (by simp [h]))
  unfold setL at h
  simp only [] at h
  split at h
  · rcases key p.L [] (plainC p r) y h with h | h | h
    · simp at h
    · exact .inr h
    · exact .inl h
  · rcases List.mem_append.1 h with h | h
    · rcases key p.L [] (plainC p r) y h with h | h | h
      · simp at h
      · exact .inr h
      · exact .inl h
    · exact .inr (by simpa using h)
end Go.Proofs.Yteiagjbjokldgaa
