/-
  MsgBack, over abstract values.
-/
import Derived.Test.YteapmnolmfickaaMsgT
set_option linter.unusedSimpArgs false
set_option linter.unusedVariables false
set_option maxRecDepth 100000
set_option maxHeartbeats 4000000
namespace Go.Proofs.Yteapmnolmfickaa
open Go.Sim Go.Sim.Bt
attribute [local congr] bdc cndc itec gdc gdSc gdUc
namespace MsgBack
theorem l34 (p : Pk) : lal p.cs 0 34 = some (.agg ⟨p.cs⟩) := rfl
theorem tail {s : St} {w : Value} {bs : List Int} (hF : Fresh s) (hb : Byt s w (br bs)) (hr : Rmy w) (hy : okY bs) (hl : bs.length ≤ 3000) : ∃ s', l04MsgBack.t.p1 std (0, [w], s) = some (.bool true, s') := by
  obtain ⟨v, s1, e1, m1, f1, u1⟩ := decode_v hF hb hr hy (by omega)
  have n0 : eqb [1] false true (.int .i64 0) (.int .i64 0) = some (.bool false) := rfl
  have n40 : eqb [1] false true (.int .i64 40) (.int .i64 0) = some (.bool true) := rfl
  have q0 : eqb [1] false false (.int .i64 0) (.int .i64 0) = some (.bool true) := rfl
  unfold l04MsgBack.t.p1
  rcases dec_is hy with c | ⟨p, lb, c, k1, k2, k3, k4, k5⟩
  · rw [c] at e1 u1
    have g := rsameK (setV zPk v) zPk s1 (MsgApart.vb_of (l := []) u1.byt) (VB.nil s1)
    have hz : sameK (setV zPk v) zPk ⟨⟨bts ([] : List Int)⟩⟩ noB := sameK_self _ _ _ rfl rfl rfl rfl rfl rfl rfl rfl rfl rfl rfl
    rw [@decide_eq_true _ (Classical.propDecidable _) hz] at g
    refine ⟨s1, ?_⟩
    simp only [std_bd, std_cnd, std_gd, List.getD_cons_zero, List.getD_cons_succ, cellsA, e1, xtr_eq, List.getElem?_cons_zero, List.getElem?_cons_succ, z34, t34, l34, b34, n40, cndt, g, bds]
  · rw [c] at e1 u1
    obtain ⟨a1, a2⟩ := k3 v
    have k4 : okPk (setV p v) ⟨⟨bts lb⟩⟩ lb.length := k4
    obtain ⟨x, s2, e2, m2, u2, f2⟩ := encode_v (setV p v) f1 a1 a2 (MsgApart.vb_of u1.byt) u1.byt k2 k4
    rw [wBs_V, k5] at u2
    have d1 := byt_b2s u2.byt
    have d2 := byt_b2s (hb.mr (m1.trans m2) hF)
    have eq : eqb [2] false false (.string ⟨⟨bts bs⟩⟩) (.string ⟨⟨bts bs⟩⟩) = some (.bool true) := by rw [eqb2]; simp
    refine ⟨s2, ?_⟩
    simp only [std_bd, std_cnd, std_gd, List.getD_cons_zero, List.getD_cons_succ, cellsA, e1, xtr_eq, List.getElem?_cons_zero, List.getElem?_cons_succ, z34, t34, l34, n0, q0, cndf, e2, gdtt, pikt, d1, d2, eq, bds]
theorem law (s : St) (us : List Value) (ha : AllRo s) (hf : ∀ b, s.n ≤ b → s.get b = none) (h : Args s [(true, [.b, .b, .i .i64, .b, .i .i64, .i .i64, .i .i64, .i .i64, .i .u64, .i .i64, .i .i64, .i .u64, .i .i64, .i .u64, .i .i64, .i .i64, .i .u64, .i .i64, .i .u64, .i .i64, .i .i64, .i .i64, .b, .i .i64, .i .i64, .i .u64, .i .i64, .i .u64, .i .i64, .i .i64, .i .u64, .i .i64, .i .u64, .sl [.i .u8]]), (false, [.sl [.i .u8]])] us) : ∃ s', l04MsgBack.w us s = some (.bool true, s') := by
  simp only [Args, Arg] at h
  obtain ⟨_, _, rfl, ⟨c1, rfl, hc1⟩, a2, _, rfl, h2, rfl⟩ := h
  unfold Leaf.Are Leaf.Are at h2
  obtain ⟨v', _, g1, hv2, rfl⟩ := h2
  obtain rfl : a2 = v' := (List.cons.inj g1).1
  have hv2 : ValIs s a2 := hv2
  obtain ⟨p0, rfl, x1, x1', x2⟩ := MsgApart.pk_arg2 hc1
  obtain ⟨p, p1, hA, hR, lb, hb, hy, hl⟩ := MsgApart.light_y p0 x1 x1' x2
  obtain ⟨w, bs, w1, w2, w3, w4, w5⟩ := cut_y hv2
  have hF : Fresh s := hf
  have l0 : ∀ p : Pk, bx (.agg ⟨p.cs⟩) = some p.cs := fun _ => rfl
  have l4 : ∀ p q : Pk, stl p.cs 0 34 (.agg ⟨q.cs⟩) = some q.cs := fun _ _ => rfl
  have al : l04awakeC.r s = some (.bool true) := rfl
  have nt : un .not (.bool true) = some (.bool false) := rfl
  have n0 : eqb [1] false true (.int .i64 0) (.int .i64 0) = some (.bool false) := rfl
  have q0 : eqb [1] false false (.int .i64 0) (.int .i64 0) = some (.bool true) := rfl
  have q40 : eqb [1] false false (.int .i64 40) (.int .i64 0) = some (.bool false) := rfl
  by_cases ok : okPk p ⟨⟨bts lb⟩⟩ lb.length
  · obtain ⟨v1, s1, e1, m1, u1, f1⟩ := encode_v p hF hA hR (MsgApart.vb_of hb) hb (by omega) ok
    obtain ⟨o1, o2⟩ := MsgApart.enc_ok hA hR hy (by omega) ok
    obtain ⟨v2, s2, e2, m2, f2, u2⟩ := decode_v f1 u1.byt u1.rmy o1 (by omega)
    rw [dec_fwd hA hR hy (by omega) ok] at e2 u2
    have m12 := m1.trans m2
    have hb2 := hb.mr m12 hF
    have g := rsameK p (setV (setV p nilB) v2) s2 (MsgApart.vb_of hb2) (MsgApart.vb_of u2.byt)
    rw [@decide_eq_true _ (Classical.propDecidable _) (show sameK p (setV (setV p nilB) v2) ⟨⟨bts lb⟩⟩ ⟨⟨bts lb⟩⟩ from sameK_self _ _ _ rfl rfl rfl rfl rfl rfl rfl rfl rfl rfl rfl)] at g
    obtain ⟨s3, t3⟩ := tail f2 (w2.mr m12 hF) w4 w3 w5
    refine ⟨s3, ?_⟩
    show l04MsgBack.v _ _ s = _
    unfold l04MsgBack.v l04MsgBack.t l04MsgBack.t.p2
    simp only [std_bd, std_cnd, std_gd, l0, al, nt, cndf, l34, p1, w1, l4, e1, xtr_eq, List.getElem?_cons_zero, List.getElem?_cons_succ, q0, n0, cndt, e2, z34, t34, gdff, g, pikf, t3, if_true, bds]
  · have e1 := encode_no p hF hA (MsgApart.vb_of hb) ok
    obtain ⟨s3, t3⟩ := tail hF w2 w4 w3 w5
    refine ⟨s3, ?_⟩
    show l04MsgBack.v _ _ s = _
    unfold l04MsgBack.v l04MsgBack.t l04MsgBack.t.p2
    simp only [std_bd, std_cnd, std_gd, l0, al, nt, cndf, l34, p1, w1, l4, e1, xtr_eq, List.getElem?_cons_zero, List.getElem?_cons_succ, q40, cndf, t3, if_true, bds]
end MsgBack
end Go.Proofs.Yteapmnolmfickaa
