/-
  Steps of a search that change blocks of some kinds alone.
-/
import Derived.Test.YteafgjpbfhjbjaaGreatMachF
import Derived.Test.YteafgjpbfhjbjaaGreatSekF
set_option linter.unusedSimpArgs false
set_option linter.unusedVariables false
set_option maxRecDepth 100000
set_option maxHeartbeats 2000000
namespace Go.Proofs.YteafgjpbfhjbjaaGreat
open Go.Sim Go.Sim.Bt
attribute [local congr] bdc cndc itec gdc gdSc gdUc
theorem Stq.stp {c : Cf} {m : Mm} {s s' : St} {b q : Nat} (h : At c m s b q) (k : Stq b q s s') : StpK [40, 1000] s s' := by
  refine ⟨by rw [k.2.1]; exact Nat.le_refl _, fun x y hx hy => ?_, k.2.2⟩
  rw [k.1 x ?_ ?_]
  · exact hx
  · rintro rfl; have h1 := h.row; unfold Row at h1; rw [hx] at h1; cases h1; simp [kd] at hy
  · rintro rfl; have h1 := h.map; rw [hx] at h1; cases h1; simp [kd] at hy
theorem At.stp {ks : List Nat} {c : Cf} {m : Mm} {s s' : St} {b q : Nat} (h : At c m s b q) (k : StpK ks s s') (h1 : 40 ∉ ks) (h2 : 1000 ∉ ks) : At c m s' b q := ⟨k.row h.row h1, k.map h.map h2⟩
theorem inv_m0 {c : Cf} (hC : okC c) : InvS (m0 c) := ⟨by simp [m0], hC.2.2.2.1, fun e => by simp [m0] at e⟩
theorem tell_tab {c : Cf} {m : Mm} {a : Ans} {x : Option Rf} : (tellF c m a x).tab.length ≤ m.tab.length + 1 := by
  have hg : ∀ (m : Mm) (x : Option Rf), (goesF c m x).tab = m.tab := by
    intro m x
    cases x with
    | none => simp only [goesF, againC]; split <;> rfl
    | some r => simp only [goesF]; split; rfl; split <;> rfl
  have ha : ∀ m : Mm, (againC c m).tab = m.tab := by intro m; unfold againC; split <;> rfl
  have hk : ∀ r y : Rf, (keepC m r y).tab.length ≤ m.tab.length + 1 := fun r y => upd_len _ _ _
  unfold tellF
  repeat' split
  all_goals first
    | omega
    | (rw [hg]; show m.tab.length ≤ _; omega)
    | (rw [ha]; first | exact hk _ _ | omega)
    | exact hk _ _
    | (show m.tab.length ≤ _; omega)
abbrev E0 : St := ⟨[], 0⟩
theorem more_E0 {s : St} (f : Fresh s) : More E0 s := ⟨Nat.zero_le _, fun b hb => absurd hb (Nat.not_lt_zero _), fun _ => f⟩
theorem StpR.stp {s s' : St} {d : Nat} {X : List Value} (h : RRow s d X) (k : StpR d 0 s s') : StpK [39, 13] s s' := by
  refine ⟨k.1, fun x y hx hy => k.2.1 x y hx ?_ (.inr ?_), k.2.2⟩
  · rintro rfl; unfold RRow at h; rw [hx] at h; cases h; simp [kd] at hy
  · rintro rows ro rfl; simp [kd] at hy
theorem AtR.stp {ks : List Nat} {c : Cf} {m : Mm} {s s' : St} {d : Nat} {wv : Value} {ws : List Wl} (h : AtR c m E0 s d wv ws) (k : StpK ks s s') (h1 : 39 ∉ ks) (h2 : 13 ∉ ks) (f : Fresh s') : AtR c m E0 s' d wv ws := by
  refine ⟨k.row h.row h1, ?_, h.tab, more_E0 f, h.big, h.dn⟩
  rcases h.own with ⟨g1, g2⟩ | ⟨o, g1, g2, g3⟩
  · exact .inl ⟨g1, g2⟩
  · exact .inr ⟨o, g1, g2, k.row g3 h2⟩
end Go.Proofs.YteafgjpbfhjbjaaGreat
