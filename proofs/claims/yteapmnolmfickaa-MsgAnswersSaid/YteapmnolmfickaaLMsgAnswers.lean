/-
  MsgAnswers, over abstract values.
-/
import Derived.Test.YteapmnolmfickaaMsgT
set_option linter.unusedSimpArgs false
set_option linter.unusedVariables false
set_option maxRecDepth 100000
set_option maxHeartbeats 4000000
namespace Go.Proofs.Yteapmnolmfickaa
open Go.Sim Go.Sim.Bt
attribute [local congr] bdc cndc itec gdc gdSc gdUc
namespace MsgAnswers
theorem l34 (p : Pk) : lal p.cs 0 34 = some (.agg ⟨p.cs⟩) := rfl
theorem ans_arg2 {s : St} {r : List Value} (h : Leaf.Are s [.i .i64, .b, .i .i64, .i .i64, .i .u64, .i .i64, .i .u64, .i .i64, .i .i64, .i .u64, .i .i64, .i .u64, .sl [.i .u8]] r) : ∃ a : Ans, r = a.cs ∧ R3 a.l ∧ R3 a.r ∧ ValIs s a.v := by
  have e : ∀ v, Leaf.Is s (.sl [.i .u8]) v → ValIs s v := fun _ h => h
  obtain ⟨_, _, rfl, k1, _, _, rfl, k2, _, _, rfl, k3, _, _, rfl, k4, _, _, rfl, k5, _, _, rfl, k6, _, _, rfl, k7, _, _, rfl, k8, _, _, rfl, k9, _, _, rfl, k10, _, _, rfl, k11, _, _, rfl, k12, v, _, rfl, hv, rfl⟩ := h
  simp only [Leaf.Is] at k1 k2 k3 k4 k5 k6 k7 k8 k9 k10 k11 k12
  obtain ⟨a1, rfl, w1⟩ := k1
  obtain ⟨a2, rfl⟩ := k2
  obtain ⟨a3, rfl, w3⟩ := k3
  obtain ⟨a4, rfl, w4⟩ := k4
  obtain ⟨a5, rfl, w5⟩ := k5
  obtain ⟨a6, rfl, w6⟩ := k6
  obtain ⟨a7, rfl, w7⟩ := k7
  obtain ⟨a8, rfl, w8⟩ := k8
  obtain ⟨a9, rfl, w9⟩ := k9
  obtain ⟨a10, rfl, w10⟩ := k10
  obtain ⟨a11, rfl, w11⟩ := k11
  obtain ⟨a12, rfl, w12⟩ := k12
  exact ⟨⟨a1, a2, ⟨a3, a4, a5, a6, a7⟩, ⟨a8, a9, a10, a11, a12⟩, v⟩, rfl, ⟨MsgApart.rI w3, MsgApart.rU w5, (wf_u64 w7).1⟩, ⟨MsgApart.rI w8, MsgApart.rU w10, (wf_u64 w12).1⟩, e _ hv⟩
theorem xOf_br {l : List Int} : xOf (br l) = ⟨⟨bts l⟩⟩ := by
  unfold xOf
  rw [bytesOf_br]
  rfl
theorem law (s : St) (us : List Value) (ha : AllRo s) (hf : ∀ b, s.n ≤ b → s.get b = none) (h : Args s [(true, [.b, .b, .i .i64, .b, .i .i64, .i .i64, .i .i64, .i .i64, .i .u64, .i .i64, .i .i64, .i .u64, .i .i64, .i .u64, .i .i64, .i .i64, .i .u64, .i .i64, .i .u64, .i .i64, .i .i64, .i .i64, .b, .i .i64, .i .i64, .i .u64, .i .i64, .i .u64, .i .i64, .i .i64, .i .u64, .i .i64, .i .u64, .sl [.i .u8]]), (true, [.i .i64, .b, .i .i64, .i .i64, .i .u64, .i .i64, .i .u64, .i .i64, .i .i64, .i .u64, .i .i64, .i .u64, .sl [.i .u8]])] us) : ∃ s', l04MsgAnswers.w us s = some (.bool true, s') := by
  unfold Args Args Args Arg at h
  obtain ⟨a1, _, rfl, ⟨c1, rfl, hc1⟩, a2, _, rfl, ⟨c2, rfl, hc2⟩, rfl⟩ := h
  obtain ⟨p0, rfl, x1, x1', x2⟩ := MsgApart.pk_arg2 hc1
  obtain ⟨a0, rfl, z1, z2, y2⟩ := ans_arg2 hc2
  obtain ⟨p, p1, hA, hR, l, hp, hy, hl⟩ := MsgApart.light_y p0 x1 x1' x2
  obtain ⟨w, la, q1, hw, hya, hrw, hla⟩ := cut_y y2
  have hF : Fresh s := hf
  obtain ⟨a, hae⟩ : ∃ a : Ans, a = { a0 with v := w } := ⟨_, rfl⟩
  have hav : Byt s a.v (br la) := by rw [hae]; exact hw
  have h1 : R3 a.l := by rw [hae]; exact z1
  have h2 : R3 a.r := by rw [hae]; exact z2
  have l0 : ∀ p : Pk, bx (.agg ⟨p.cs⟩) = some p.cs := fun _ => rfl
  have l4 : ∀ p q : Pk, stl p.cs 0 34 (.agg ⟨q.cs⟩) = some q.cs := fun _ _ => rfl
  have l5 : ∀ a : Ans, bx (.agg ⟨a.cs⟩) = some a.cs := fun _ => rfl
  have l6 : ∀ a : Ans, lcl a.cs 12 = some a.v := fun _ => rfl
  have l7 : ∀ a : Ans, lal a.cs 0 13 = some (.agg ⟨a.cs⟩) := fun _ => rfl
  have l8 : stl a0.cs 12 1 w = some a.cs := by rw [hae, stl_eq, hw.bx]; rfl
  have al : l04awakeC.r s = some (.bool true) := rfl
  have nt : un .not (.bool true) = some (.bool false) := rfl
  have eqi : ∀ (a : Int), eqb [1] false false (.int .i64 a) (.int .i64 a) = some (.bool true) := fun b => by rw [eqb1]; simp
  have n0 : eqb [1] false true (.int .i64 0) (.int .i64 0) = some (.bool false) := rfl
  have n40 : eqb [1] false true (.int .i64 40) (.int .i64 0) = some (.bool true) := rfl
  have ad3 : ∀ p : Pk, lal p.cs 3 2 = some (.agg ⟨[.bool p.ta, .int .i64 p.tn]⟩) := fun _ => rfl
  have ad1 : ∀ p : Pk, lal p.cs 1 2 = some (.agg ⟨[.bool p.fa, .int .i64 p.fn]⟩) := fun _ => rfl
  have i5 : ∀ p : Pk, lcl p.cs 5 = some (.int .i64 p.id) := fun _ => rfl
  have la21 : ∀ p : Pk, lal p.cs 21 13 = some (.agg ⟨p.ans.cs⟩) := fun _ => rfl
  obtain ⟨r1, r2⟩ := reply_v p a hF hA h1.2.2 h2.2.2 hp hav (by rw [br_length]; omega)
  rw [xOf_br, xOf_br, br_length, br_length] at r1 r2
  by_cases k : okRe p a ⟨⟨bts l⟩⟩ l.length ⟨⟨bts la⟩⟩ la.length
  · obtain ⟨u, s1, g1, m1, b1⟩ := r1 k
    have f1 := m1.fresh hF
    obtain ⟨k1, k2, k3⟩ := k
    obtain ⟨ra, hra⟩ : ∃ ra, ra = rePk p { a with v := u } := ⟨_, rfl⟩
    have hRA : PkA ra := by
      rw [hra]
      obtain ⟨z1, z2, z3, z4, z5⟩ := a0K_a 0
      exact ⟨z1, z2.2.2, z3.2.2, h1.2.2, h2.2.2⟩
    have hRR : PkR ra := by
      rw [hra]
      obtain ⟨z1, z2, z3, z4, z5⟩ := a0K_a 0
      exact ⟨hR.tn, hR.fn, hR.id, z4, z5, z2.1, z2.2.1, z3.1, z3.2.1, h1.1, h1.2.1, h2.1, h2.2.1⟩
    have hok : okPk ra ⟨⟨bts la⟩⟩ la.length := by
      rw [hra]
      exact ⟨k1.1, .inl ⟨rfl, rfl, k3⟩⟩
    have hbr : Byt s1 ra.ans.v (br la) := by rw [hra]; exact b1
    rw [← hra] at g1
    obtain ⟨v1, s2, e2, m2, u2, f2⟩ := encode_v ra f1 hRA hRR (MsgApart.vb_of hbr) hbr (by omega) hok
    obtain ⟨o1, o2⟩ := MsgApart.enc_ok hRA hRR hya (by omega) hok
    obtain ⟨v3, s3, e3, m3, f3, u3⟩ := decode_v f2 u2.byt u2.rmy o1 (by omega)
    rw [dec_fwd hRA hRR hya (by omega) hok] at e3 u3
    have hb3 := hbr.mr (m2.trans m3) f1
    have ha3 := hav.mr ((m1.trans m2).trans m3) hF
    obtain ⟨_, r4⟩ := reply_v ra a f3 hRA h1.2.2 h2.2.2 hb3 ha3 (by rw [br_length]; omega)
    have r4 := r4 (fun e => by have := e.2.1; rw [hra] at this; cases this)
    have g5 := rsameN (setV (setV ra nilB) v3).ans a s3 (MsgApart.vb_of u3.byt) (MsgApart.vb_of ha3)
    have hs : sameN (setV (setV ra nilB) v3).ans a ⟨⟨bts la⟩⟩ ⟨⟨bts la⟩⟩ := by rw [hra]; exact ⟨rfl, rfl, rfl, rfl, rfl⟩
    rw [@decide_eq_true _ (Classical.propDecidable _) hs] at g5
    have E1 : eqb [0, 1] true false (.agg ⟨[.bool (setV (setV ra nilB) v3).ta, .int .i64 (setV (setV ra nilB) v3).tn]⟩) (.agg ⟨[.bool p.fa, .int .i64 p.fn]⟩) = some (.bool true) := by
      rw [eqAd, hra]; simp [setV, rePk]
    have E2 : eqb [0, 1] true false (.agg ⟨[.bool (setV (setV ra nilB) v3).fa, .int .i64 (setV (setV ra nilB) v3).fn]⟩) (.agg ⟨[.bool p.ta, .int .i64 p.tn]⟩) = some (.bool true) := by
      rw [eqAd, hra]; simp [setV, rePk]
    have E3 : eqb [1] false false (.int .i64 (setV (setV ra nilB) v3).id) (.int .i64 p.id) = some (.bool true) := by
      rw [eqb1, hra]; simp [setV, rePk]
    generalize setV (setV ra nilB) v3 = Q at *
    refine ⟨s3, ?_⟩
    show l04MsgAnswers.v _ _ s = _
    unfold l04MsgAnswers.v l04MsgAnswers.t l04MsgAnswers.t.p2 l04MsgAnswers.t.p1
    simp only [std_bd, std_cnd, std_gd, l0, l5, l34, p1, l4, l6, q1, l8, l7, al, nt, cndf, g1, xtr_eq, List.getElem?_cons_zero, List.getElem?_cons_succ, z34, t34, n0, e2, e3, r4, eqi, gdtt, pikt, ad3, ad1, i5, la21, E1, E2, E3, g5, bds]
  · have g1 := r2 k
    have h3 := rcheckP p s hF hA hp.vb
    have h4 := rcheckN a s hav.vb h1.2.2 h2.2.2
    rw [xOf_br, br_length] at h3 h4
    have c0 : lcl p.cs 0 = some (.bool p.rep) := rfl
    refine ⟨s, ?_⟩
    show l04MsgAnswers.v _ _ s = _
    unfold l04MsgAnswers.v l04MsgAnswers.t l04MsgAnswers.t.p2
    cases hr : p.rep with
    | true =>
      rw [hr] at c0
      simp only [std_bd, std_cnd, std_gd, l0, l5, l34, p1, l4, l6, q1, l8, l7, al, nt, cndf, g1, xtr_eq, List.getElem?_cons_zero, List.getElem?_cons_succ, z34, t34, n40, cndt, c0, gdtf, gdun, pikt, bds]
    | false =>
      rw [hr] at c0
      by_cases k1 : okPk p ⟨⟨bts l⟩⟩ l.length
      · have k3 : ¬ okN a ⟨⟨bts la⟩⟩ la.length := fun e => k ⟨k1, hr, e⟩
        rw [if_pos k1] at h3
        rw [if_neg k3] at h4
        simp only [std_bd, std_cnd, std_gd, l0, l5, l34, p1, l4, l6, q1, l8, l7, al, nt, cndf, g1, xtr_eq, List.getElem?_cons_zero, List.getElem?_cons_succ, z34, t34, n0, n40, cndt, c0, gdff, h3, pikf, h4, bds]
      · rw [if_neg k1] at h3
        simp only [std_bd, std_cnd, std_gd, l0, l5, l34, p1, l4, l6, q1, l8, l7, al, nt, cndf, g1, xtr_eq, List.getElem?_cons_zero, List.getElem?_cons_succ, z34, t34, n40, cndt, c0, gdff, gdtf, gdun, h3, pikf, pikt, bds]
end MsgAnswers
end Go.Proofs.Yteapmnolmfickaa
