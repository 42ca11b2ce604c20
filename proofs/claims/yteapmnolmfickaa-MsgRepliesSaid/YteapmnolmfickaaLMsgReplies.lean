/-
  MsgReplies, over abstract values.
-/
import Derived.Test.YteapmnolmfickaaMsgG
set_option linter.unusedSimpArgs false
set_option linter.unusedVariables false
set_option maxRecDepth 100000
set_option maxHeartbeats 4000000
namespace Go.Proofs.Yteapmnolmfickaa
open Go.Sim Go.Sim.Bt
attribute [local congr] bdc cndc itec gdc gdSc gdUc
namespace MsgReplies

theorem law (s : St) (us : List Value) (ha : AllRo s) (hf : ∀ b, s.n ≤ b → s.get b = none) (h : Args s [(true, [.b, .b, .i .i64, .b, .i .i64, .i .i64, .i .i64, .i .i64, .i .u64, .i .i64, .i .i64, .i .u64, .i .i64, .i .u64, .i .i64, .i .i64, .i .u64, .i .i64, .i .u64, .i .i64, .i .i64, .i .i64, .b, .i .i64, .i .i64, .i .u64, .i .i64, .i .u64, .i .i64, .i .i64, .i .u64, .i .i64, .i .u64, .sl [.i .u8]]), (true, [.i .i64, .b, .i .i64, .i .i64, .i .u64, .i .i64, .i .u64, .i .i64, .i .i64, .i .u64, .i .i64, .i .u64, .sl [.i .u8]])] us) : ∃ s', leapfroglaw04x_MsgReplies.w us s = some (.bool true, s') := by
  unfold Args Args Args Arg at h
  obtain ⟨a1, _, rfl, ⟨c1, rfl, hc1⟩, a2, _, rfl, ⟨c2, rfl, hc2⟩, rfl⟩ := h
  obtain ⟨p0, rfl, x1, x2⟩ := pk_arg hc1
  obtain ⟨a0, rfl, z1, z2, y2⟩ := ans_arg hc2
  obtain ⟨p, p1, hA, l, hp, _⟩ := light_r p0 x1 x2
  obtain ⟨w, la, q1, hw, hla⟩ := cut_r y2
  have hF : Fresh s := hf
  obtain ⟨a, hae⟩ : ∃ a : Ans, a = { a0 with v := w } := ⟨_, rfl⟩
  have hav : Byt s a.v la := by rw [hae]; exact hw
  have h1 : 0 ≤ a.l.bt := by rw [hae]; exact z1
  have h2 : 0 ≤ a.r.bt := by rw [hae]; exact z2
  have l0 : ∀ p : Pk, bx (.agg ⟨p.cs⟩) = some p.cs := fun _ => rfl
  have l1 : ∀ p : Pk, lal p.cs 0 34 = some (.agg ⟨p.cs⟩) := fun _ => rfl
  have l4 : ∀ p q : Pk, stl p.cs 0 34 (.agg ⟨q.cs⟩) = some q.cs := fun _ _ => rfl
  have l5 : ∀ a : Ans, bx (.agg ⟨a.cs⟩) = some a.cs := fun _ => rfl
  have l6 : ∀ a : Ans, lcl a.cs 12 = some a.v := fun _ => rfl
  have l7 : ∀ a : Ans, lal a.cs 0 13 = some (.agg ⟨a.cs⟩) := fun _ => rfl
  have l8 : stl a0.cs 12 1 w = some a.cs := by rw [hae, stl_eq, hw.bx]; rfl
  have lz : bx (.agg #[.bool false, .bool false, .int .i64 0, .bool false, .int .i64 0, .int .i64 0, .int .i64 0, .int .i64 0, .int .u64 0, .int .i64 0, .int .i64 0, .int .u64 0, .int .i64 0, .int .u64 0, .int .i64 0, .int .i64 0, .int .u64 0, .int .i64 0, .int .u64 0, .int .i64 0, .int .i64 0, .int .i64 0, .bool false, .int .i64 0, .int .i64 0, .int .u64 0, .int .i64 0, .int .u64 0, .int .i64 0, .int .i64 0, .int .u64 0, .int .i64 0, .int .u64 0, .slice none 0 0]) = some zPk.cs := rfl
  have al : ∀ s, leapfroglaw04x_awakeC.r s = some (.bool true) := fun _ => rfl
  have eqi : ∀ (a : Int), eqb [1] false false (.int .i64 a) (.int .i64 a) = some (.bool true) := fun b => by rw [eqb1]; simp
  obtain ⟨r1, r2⟩ := reply_v p a hF hA h1 h2 hp hav (by omega)
  by_cases k : okRe p a (xOf l) l.length (xOf la) la.length
  · obtain ⟨u, s', g1, g2, g3⟩ := r1 k
    have f' := g2.fresh hF
    have hp' := hp.mr g2 hF
    have hav' := hav.mr g2 hF
    have g4 := (rreply_r p a f' hA h1 h2 hp' hav').1 k
    have g5 := rsameK (rePk p { a with v := u }) (rePk p a) s' g3.vb hav'.vb
    rw [@decide_eq_true _ (Classical.propDecidable _) (show sameK (rePk p { a with v := u }) (rePk p a) (xOf la) (xOf la) from ⟨rfl, ⟨rfl, rfl⟩, ⟨rfl, rfl⟩, rfl, rfl, rfl, rfl, rfl, rfl, rfl⟩)] at g5
    refine ⟨s', ?_⟩
    show leapfroglaw04x_MsgReplies.v _ _ s = _
    unfold leapfroglaw04x_MsgReplies.v leapfroglaw04x_MsgReplies.t leapfroglaw04x_MsgReplies.t.p1
    simp only [std_bd, std_gd, l0, l5, l1, p1, l4, l6, q1, l8, l7, g1, xtr_eq, List.getElem?_cons_zero, List.getElem?_cons_succ, lz, g4, g5, eqi, gdtt, pikt, al, bds]
  · have g1 := r2 k
    have g4 := (rreply_r p a hF hA h1 h2 hp hav).2 k
    have g5 := rsameK zPk zPk s (VB.nil s) (VB.nil s)
    rw [@decide_eq_true _ (Classical.propDecidable _) (show sameK zPk zPk noB noB from ⟨rfl, ⟨rfl, rfl⟩, ⟨rfl, rfl⟩, rfl, rfl, rfl, rfl, rfl, rfl, rfl⟩)] at g5
    refine ⟨s, ?_⟩
    show leapfroglaw04x_MsgReplies.v _ _ s = _
    unfold leapfroglaw04x_MsgReplies.v leapfroglaw04x_MsgReplies.t leapfroglaw04x_MsgReplies.t.p1
    simp only [std_bd, std_gd, l0, l5, l1, p1, l4, l6, q1, l8, l7, g1, xtr_eq, List.getElem?_cons_zero, List.getElem?_cons_succ, lz, g4, g5, eqi, gdtt, pikt, al, bds]
end MsgReplies
end Go.Proofs.Yteapmnolmfickaa
