/-
  A splice among quiet peers, plainly: what it wants, ask by ask.
-/
import Derived.Test.YteiagjbjokldgaaPesD
import Derived.Test.YteiagjbjokldgaaSplD
set_option linter.unusedSimpArgs false
set_option linter.unusedVariables false
set_option maxRecDepth 100000
set_option maxHeartbeats 2000000
namespace Go.Proofs.Yteiagjbjokldgaa
open Go.Sim Go.Sim.Bt

section
variable {c : Cf} {p r : Rf} {last : Option Rf} {dd : Bool} {th : Th} {res : Res} {rc : Rc}
theorem n1 : nextC c ⟨1, p, last, r, false, dd, th, res⟩ = stepC 1 p ⟨3, c.wl, c.wb, zR, zR, c.oa, c.oo⟩ zRes := rfl
theorem n2 : nextC c ⟨2, p, last, r, false, dd, th, res⟩ = stepC 1 r ⟨1, c.wl, c.wb, zR, zR, 0, 0⟩ zRes := rfl
theorem n3 : nextC c ⟨3, p, last, r, false, dd, th, res⟩ = stepC 1 c.me ⟨7, c.wl, c.wb, p, r, c.oa, c.oo⟩ zRes := rfl
theorem n4 : nextC c ⟨4, p, last, r, false, dd, th, res⟩ = stepC 1 p ⟨5, c.wl, c.wb, c.me, zR, c.oa, c.oo⟩ zRes := rfl
theorem n5 : nextC c ⟨5, p, last, r, false, dd, th, res⟩ = stepC 1 r ⟨6, c.wl, c.wb, c.me, zR, 0, 0⟩ zRes := rfl
theorem n6 : nextC c ⟨6, p, last, r, false, dd, th, res⟩ = stepC 1 c.me ⟨4, c.wl, c.wb, zR, zR, c.oa, c.oo⟩ zRes := rfl
theorem n8 : nextC c ⟨8, p, last, r, false, dd, th, res⟩ = stepC 1 p ⟨4, c.wl, c.wb, zR, zR, c.oa, c.oo⟩ zRes := rfl
theorem n10 : nextC c ⟨10, p, last, r, false, dd, th, res⟩ = stepC 3 zR zAsk res := rfl
theorem k1n (h1 : lessR p rc.r) (h2 : lessR rc.r c.me) : tellC c ⟨1, p, last, r, false, dd, th, res⟩ (ansR rc) = ⟨8, p, last, rc.r, false, dd, .next, res⟩ := by
  simp [tellC, lookC, freeC, h1, h2]
theorem k1s (h1 : lessR p rc.r) (h2 : ¬ lessR rc.r c.me) (h3 : sameK rc.r c.me) (h4 : ¬ 0 < c.wl) : tellC c ⟨1, p, last, r, false, dd, th, res⟩ (ansR rc) = ⟨2, p, last, rc.r, false, dd, th, res⟩ := by
  simp [tellC, lookC, freeC, h1, h2, h3, h4]
theorem k1e (h1 : lessR p rc.r) (h2 : ¬ lessR rc.r c.me) (h3 : ¬ sameK rc.r c.me) : tellC c ⟨1, p, last, r, false, dd, th, res⟩ (ansR rc) = ⟨3, p, last, rc.r, false, dd, th, res⟩ := by
  simp [tellC, lookC, freeC, h1, h2, h3]
theorem k2 : tellC c ⟨2, p, last, r, false, dd, th, res⟩ (ansR rc) = ⟨8, p, last, r, false, dd, .ex, res⟩ := by
  simp [tellC, freeC]
theorem k3 : tellC c ⟨3, p, last, r, false, dd, th, res⟩ okA = ⟨4, p, last, r, false, dd, th, res⟩ := by
  simp [tellC]
theorem k4 : tellC c ⟨4, p, last, r, false, dd, th, res⟩ okA = ⟨5, p, last, r, false, dd, th, res⟩ := by
  simp [tellC]
theorem k5 : tellC c ⟨5, p, last, r, false, dd, th, res⟩ okA = ⟨6, p, last, r, false, dd, th, res⟩ := by
  simp [tellC]
theorem k6 : tellC c ⟨6, p, last, r, false, dd, th, res⟩ okA = ⟨8, p, last, r, false, false, .fin ⟨0, 0, p, r, false⟩, res⟩ := by
  simp [tellC, freeC]
theorem k8n : tellC c ⟨8, p, last, r, false, dd, .next, res⟩ okA = ⟨1, r, some p, r, false, dd, .next, res⟩ := by
  simp [tellC, runC]
theorem k8x : tellC c ⟨8, p, last, r, false, dd, .ex, res⟩ okA = ⟨10, p, last, r, false, dd, .ex, ⟨100, 0, p, r, false⟩⟩ := by
  simp [tellC, runC]
theorem k8f {q : Res} : tellC c ⟨8, p, last, r, false, dd, .fin q, res⟩ okA = ⟨10, p, last, r, false, dd, .fin q, q⟩ := by
  simp [tellC, runC]
end
/-- A record of a row that is quiet. -/
def recV (wl wb : Int) (R : List Rf) (j : Nat) : Rc := ⟨wl, wb, if j = 0 then zR else R.getD (j - 1) zR, R.getD (j + 1) zR, false, 0, 0⟩
theorem At.k {c : Cf} {m : Mm} {s s' : St} {b : Nat} {ks : List Nat} (h : At c m s b) (k : StpK ks s s') (h1 : 44 ∉ ks) (h2 : 5 ∉ ks) (h3 : 1 ∉ ks) (h4 : 15 ∉ ks) : At c m s' b := by
  obtain ⟨lp, fv, g1, g2, g3⟩ := h
  have bx : ∀ {q : Nat}, Bx s b q → Bx s' b q := fun h => k.row h h3
  refine ⟨lp, fv, k.row g1 h1, ?_, fun e => ?_⟩
  · cases hm : m.last with
    | none => rw [hm] at g2; exact g2
    | some q => rw [hm] at g2; obtain ⟨d, ro, e1, e2⟩ := g2; exact ⟨d, ro, e1, k.row e2 h2⟩
  · have g3 := g3 e
    cases hm : m.th with
    | no => rw [hm] at g3; exact g3
    | fin R =>
      rw [hm] at g3
      rcases g3 with ⟨qs, qe, e, h0, h1, h2, h3'⟩ | ⟨qs, qr, h1, h2, h3'⟩
      · exact .inl ⟨qs, qe, e, h0, h1, bx h2, k.row h3' h3⟩
      · exact .inr ⟨qs, qr, h1, bx h2, k.row h3' h4⟩
    | wait => rw [hm] at g3; obtain ⟨qs, h1, h2⟩ := g3; exact ⟨qs, h1, bx h2⟩
    | next => rw [hm] at g3; obtain ⟨qs, h1, h2⟩ := g3; exact ⟨qs, h1, bx h2⟩
    | ex => rw [hm] at g3; obtain ⟨qs, h1, h2⟩ := g3; exact ⟨qs, h1, bx h2⟩
theorem stp_k {b : Nat} {s s' : St} {X : List Value} (k : Stp b s s') (h : Row s b X) (hf : Fresh s) : StpK [44] s s' :=
  ⟨k.1, fun x y hx hk => by
    have hne : x ≠ b := by
      rintro rfl
      unfold Row at h
      rw [h] at hx
      cases hx
      simp [kd] at hk
    rw [k.2.1 x (hf.lt hx) hne]
    exact hx, k.2.2⟩
end Go.Proofs.Yteiagjbjokldgaa
