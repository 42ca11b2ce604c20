/-
  MsgForms, over abstract values.
-/
import Derived.Test.YteapmnolmfickaaMsgF
set_option linter.unusedSimpArgs false
set_option linter.unusedVariables false
set_option maxRecDepth 100000
set_option maxHeartbeats 4000000
namespace Go.Proofs.Yteapmnolmfickaa
open Go.Sim Go.Sim.Bt
attribute [local congr] bdc cndc itec gdc gdSc gdUc
namespace MsgForms

theorem forms (s : St) (hf : Fresh s) (p q p' q' : Pk) (hp : leapfroglaw04x_light.r (.agg ⟨p.cs⟩) s = some (.agg ⟨p'.cs⟩)) (hq : leapfroglaw04x_light.r (.agg ⟨q.cs⟩) s = some (.agg ⟨q'.cs⟩)) (hA : PkA p') (hB : PkA q') {x y : ByteArray} {n m : Nat} (hx : VB s p'.ans.v x n) (hy : VB s q'.ans.v y m) :
    leapfroglaw04x_MsgForms.r (.agg ⟨p.cs⟩) (.agg ⟨q.cs⟩) s = some (.bool true) := by
  have a1 := checkAsk_r p'.ask hA.wb hA.r hA.r2 hf
  have a2 := rcheckAsk p'.ask hA.wb hA.r hA.r2 s
  have b1 := pcheckN p'.ans s hx hA.l hA.ar
  have b2 := rcheckN p'.ans s hx hA.l hA.ar
  have c1 := pcheckP p' s hf hA hx
  have c2 := rcheckP p' s hf hA hx
  have d1 := psameAsk p'.ask q'.ask s
  have d2 := rsameAsk p'.ask q'.ask s
  have e1 := psameN p'.ans q'.ans s hx hy
  have e2 := rsameN p'.ans q'.ans s hx hy
  have f1 := psameK p' q' s hx hy
  have f2 := rsameK p' q' s hx hy
  have g1 := psameK p' p' s hx hx
  rw [@decide_eq_true _ (Classical.propDecidable _) (show sameK p' p' x x from ⟨rfl, ⟨rfl, rfl⟩, ⟨rfl, rfl⟩, rfl, rfl, rfl, rfl, rfl, rfl, rfl⟩)] at g1
  have al : leapfroglaw04x_awakeC.r s = some (.bool true) := rfl
  have eqi : ∀ (a : Int), eqb [1] false false (.int .i64 a) (.int .i64 a) = some (.bool true) := fun b => by rw [eqb1]; simp
  have eqB : ∀ (a : Bool), eqb [0] false false (.bool a) (.bool a) = some (.bool true) := fun b => by rw [eqb0]; simp
  have l0 : ∀ p : Pk, bx (.agg ⟨p.cs⟩) = some p.cs := fun _ => rfl
  have l1 : ∀ p : Pk, lal p.cs 0 34 = some (.agg ⟨p.cs⟩) := fun _ => rfl
  have l2 : ∀ p : Pk, lal p.cs 6 15 = some (.agg ⟨aC p.ask⟩) := fun _ => rfl
  have l3 : ∀ p : Pk, lal p.cs 21 13 = some (.agg ⟨p.ans.cs⟩) := fun _ => rfl
  have l4 : ∀ p q : Pk, stl p.cs 0 34 (.agg ⟨q.cs⟩) = some q.cs := fun _ _ => rfl
  unfold leapfroglaw04x_MsgForms.r leapfroglaw04x_MsgForms.t leapfroglaw04x_MsgForms.t.p1
  simp only [std_bd, std_cnd, std_gd, l0, l1, hp, hq, l4, l2, l3, a1, a2, eqi, gdtt, b1, b2, pikt, c1, c2, d1, d2, eqB, e1, e2, f1, f2, g1, al, bds]
theorem law (s : St) (us : List Value) (ha : AllRo s) (hf : ∀ b, s.n ≤ b → s.get b = none) (h : Args s [(true, [.b, .b, .i .i64, .b, .i .i64, .i .i64, .i .i64, .i .i64, .i .u64, .i .i64, .i .i64, .i .u64, .i .i64, .i .u64, .i .i64, .i .i64, .i .u64, .i .i64, .i .u64, .i .i64, .i .i64, .i .i64, .b, .i .i64, .i .i64, .i .u64, .i .i64, .i .u64, .i .i64, .i .i64, .i .u64, .i .i64, .i .u64, .sl [.i .u8]]), (true, [.b, .b, .i .i64, .b, .i .i64, .i .i64, .i .i64, .i .i64, .i .u64, .i .i64, .i .i64, .i .u64, .i .i64, .i .u64, .i .i64, .i .i64, .i .u64, .i .i64, .i .u64, .i .i64, .i .i64, .i .i64, .b, .i .i64, .i .i64, .i .u64, .i .i64, .i .u64, .i .i64, .i .i64, .i .u64, .i .i64, .i .u64, .sl [.i .u8]])] us) : ∃ s', asSt leapfroglaw04x_MsgForms.w us s = some (.bool true, s') := by
  unfold Args Args Args Arg at h
  obtain ⟨a1, _, rfl, ⟨c1, rfl, hc1⟩, a2, _, rfl, ⟨c2, rfl, hc2⟩, rfl⟩ := h
  obtain ⟨p, rfl, x1, x2⟩ := pk_arg hc1
  obtain ⟨q, rfl, y1, y2⟩ := pk_arg hc2
  obtain ⟨p', p1, p2, l, p3, _⟩ := light_r p x1 x2
  obtain ⟨q', q1, q2, l', q3, _⟩ := light_r q y1 y2
  obtain ⟨x, n, p3⟩ := byt_vb p3
  obtain ⟨y, m, q3⟩ := byt_vb q3
  have := forms s hf p q p' q' p1 q1 p2 q2 p3 q3
  refine ⟨s, ?_⟩
  show ((leapfroglaw04x_MsgForms.r _ _ s).map fun v => (v, s)) = _
  rw [this]
  rfl
end MsgForms
end Go.Proofs.Yteapmnolmfickaa
