/-
  Peers side by side in memory; the references of law 14's list.
-/
import Derived.Test.YtkkgegocliobpaaPerI
set_option linter.unusedSimpArgs false
set_option linter.unusedVariables false
set_option maxRecDepth 100000
set_option maxHeartbeats 2000000
namespace Go.Proofs.Ytkkgegocliobpaa
open Go.Sim Go.Sim.Bt

/-- Peers, each in a block of its own. -/
structure WAt (ps : List (Pr × Nat)) (s : St) : Prop where
  p : ∀ (j : Nat) q, ps[j]? = some q → AtP q.1 s q.2
  nd : ∀ (i j : Nat) q r, ps[i]? = some q → ps[j]? = some r → q.2 = r.2 → i = j
theorem WAt.nil {s : St} : WAt [] s := ⟨fun j q h => by simp at h, fun i j q r h => by simp at h⟩
theorem WAt.more {ps : List (Pr × Nat)} {s s' : St} (h : WAt ps s) (m : More s s') (f : Fresh s) : WAt ps s' := ⟨fun j q hq => (h.p j q hq).more m f, h.nd⟩
theorem AtP.lt {p : Pr} {s : St} {b : Nat} (h : AtP p s b) (f : Fresh s) : b < s.n := by
  obtain ⟨vv, lv, h1, _⟩ := h.ex
  exact f.lt h1
/-- One changes. -/
theorem WAt.set {ps : List (Pr × Nat)} {s s' : St} {j b : Nat} {p p' : Pr} (h : WAt ps s) (hj : ps[j]? = some (p, b)) (k : StB b s s') (hp : AtP p' s' b) : WAt (ps.set j (p', b)) s' := by
  have hjl : j < ps.length := (List.getElem?_eq_some_iff.1 hj).1
  obtain ⟨vv, lv, h1, _⟩ := (h.p j _ hj).ex
  have old : ∀ (i : Nat) q, (ps.set j (p', b))[i]? = some q → (i = j ∧ q = (p', b)) ∨ (i ≠ j ∧ ps[i]? = some q) := by
    intro i q hq
    rw [List.getElem?_set] at hq
    by_cases e : j = i
    · rw [if_pos e, if_pos (by omega)] at hq
      cases hq
      exact .inl ⟨e.symm, rfl⟩
    · rw [if_neg e] at hq
      exact .inr ⟨fun g => e g.symm, hq⟩
  refine ⟨fun i q hq => ?_, fun i l q r hq hr he => ?_⟩
  · rcases old i q hq with ⟨_, rfl⟩ | ⟨hne, hq⟩
    · exact hp
    · exact (h.p i q hq).stb k h1 fun e => hne (h.nd i j q _ hq hj e)
  · rcases old i q hq with ⟨e1, e2⟩ | ⟨n1, hq2⟩
    · rcases old l r hr with ⟨e3, e4⟩ | ⟨n2, hr2⟩
      · rw [e1, e3]
      · rw [e2] at he
        exact absurd (h.nd l j r _ hr2 hj he.symm) n2
    · rcases old l r hr with ⟨e3, e4⟩ | ⟨n2, hr2⟩
      · rw [e4] at he
        exact absurd (h.nd i j q _ hq2 hj he) n1
      · exact h.nd i l q r hq2 hr2 he
/-- One more. -/
theorem WAt.push {ps : List (Pr × Nat)} {s s' : St} {b : Nat} {p : Pr} (h : WAt ps s) (f : Fresh s) (hs : WAt ps s') (hb : s.n ≤ b) (hp : AtP p s' b) : WAt (ps ++ [(p, b)]) s' := by
  have old : ∀ (i : Nat) q, (ps ++ [(p, b)])[i]? = some q → (i = ps.length ∧ q = (p, b)) ∨ (i < ps.length ∧ ps[i]? = some q) := by
    intro i q hq
    by_cases hi : i < ps.length
    · rw [List.getElem?_append_left hi] at hq
      exact .inr ⟨hi, hq⟩
    · rw [List.getElem?_append_right (by omega)] at hq
      have h0 : i - ps.length = 0 := by
        have := (List.getElem?_eq_some_iff.1 hq).1
        simp at this; omega
      rw [h0] at hq
      simp only [List.getElem?_cons_zero, Option.some.injEq] at hq
      exact .inl ⟨by omega, hq.symm⟩
  have lt : ∀ (i : Nat) q, ps[i]? = some q → q.2 < b := fun i q hq => Nat.lt_of_lt_of_le ((h.p i q hq).lt f) hb
  refine ⟨fun i q hq => ?_, fun i l q r hq hr he => ?_⟩
  · rcases old i q hq with ⟨_, rfl⟩ | ⟨_, hq⟩
    · exact hp
    · exact hs.p i q hq
  · rcases old i q hq with ⟨rfl, rfl⟩ | ⟨n1, hq⟩
    · rcases old l r hr with ⟨rfl, rfl⟩ | ⟨n2, hr⟩
      · rfl
      · have := lt l r hr; simp only at he; omega
    · rcases old l r hr with ⟨rfl, rfl⟩ | ⟨n2, hr⟩
      · have := lt i q hq; simp only at he; omega
      · exact hs.nd i l q r hq hr he
/-- References of a list without bits. -/
structure OkR (R : List Rf) : Prop where
  len : 2 ≤ R.length ∧ R.length ≤ 900
  first : R[0]? = some (endL 0)
  last : R[R.length - 1]? = some (endR 0)
  inner : ∀ (j : Nat) r, 0 < j → j + 1 < R.length → R[j]? = some r → r.rk = 2 ∧ r.ln = 0 ∧ r.bt = 0 ∧ r.id = (j : Int) + 1
  up : ∀ (j : Nat) a b, R[j]? = some a → R[j + 1]? = some b → lessK a.rk a.n b.rk b.n
theorem mkR_len (S : List Int) : (mkR S).length = S.length + 2 := by unfold mkR; simp
theorem mkR_in {S : List Int} {j : Nat} (h1 : 0 < j) (h2 : j < S.length + 1) : (mkR S)[j]? = some (inR S (j - 1)) := by
  unfold mkR
  rw [List.cons_append, List.getElem?_cons, if_neg (by omega), List.getElem?_append_left (by simp; omega), List.getElem?_map, List.getElem?_range (by omega)]
  rfl
theorem mkR_last (S : List Int) : (mkR S)[S.length + 1]? = some (endR 0) := by
  unfold mkR
  rw [List.getElem?_append_right (by simp)]
  simp
theorem mkR_ok {S : List Int} (hs : S.Pairwise (· < ·)) (hl : S.length ≤ 890) : OkR (mkR S) := by
  have hlen := mkR_len S
  refine ⟨by omega, rfl, by rw [hlen]; exact mkR_last S, fun j r h1 h2 hr => ?_, fun j a b ha hb => ?_⟩
  · rw [mkR_in h1 (by omega)] at hr
    cases hr
    exact ⟨rfl, rfl, rfl, by show ((j - 1 : Nat) : Int) + 2 = _; omega⟩
  · have hjl : j + 1 < (mkR S).length := (List.getElem?_eq_some_iff.1 hb).1
    by_cases h0 : j = 0
    · subst h0
      rw [show (mkR S)[0]? = some (endL 0) from rfl] at ha
      cases ha
      by_cases h1 : (0 : Nat) + 1 < S.length + 1
      · rw [mkR_in (by omega) h1] at hb
        cases hb
        unfold lessK inR; simp
      · have : S.length = 0 := by omega
        have hl := mkR_last S
        rw [this] at hl
        rw [hl] at hb
        cases hb
        unfold lessK; simp
    · rw [mkR_in (by omega) (by omega)] at ha
      cases ha
      by_cases h1 : j + 1 < S.length + 1
      · rw [mkR_in (by omega) h1] at hb
        cases hb
        have : S.getD (j - 1) 0 < S.getD (j + 1 - 1) 0 := by
          rw [List.getD_eq_getElem?_getD, List.getD_eq_getElem?_getD, List.getElem?_eq_getElem (by omega), List.getElem?_eq_getElem (by omega)]
          exact (List.pairwise_iff_getElem.1 hs) (j - 1) (j + 1 - 1) (by omega) (by omega) (by omega)
        unfold lessK inR
        right
        exact ⟨rfl, this⟩
      · have e : j = S.length := by omega
        subst e
        rw [mkR_last S] at hb
        cases hb
        unfold lessK inR; simp
end Go.Proofs.Ytkkgegocliobpaa
