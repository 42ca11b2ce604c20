/-
  MsgApart, over abstract values.
-/
import Derived.Test.YteapmnolmfickaaMsgN
set_option linter.unusedSimpArgs false
set_option linter.unusedVariables false
set_option maxRecDepth 100000
set_option maxHeartbeats 4000000
namespace Go.Proofs.Yteapmnolmfickaa
open Go.Sim Go.Sim.Bt
attribute [local congr] bdc cndc itec gdc gdSc gdUc
namespace MsgApart
theorem ful_take {n0 : Nat} {s : St} {v : Value} {l : List Int} (h : Ful n0 s 1 v (br l)) {n : Nat} (hn : n ≤ l.length) : ∃ w, slc s 1 v none (some (.int .i64 (n : Int))) none = some w ∧ b2s s w = some (.string ⟨⟨bts (l.take n)⟩⟩) := by
  rcases h with ⟨rfl, e⟩ | ⟨b, e, _, rfl, hg, he⟩
  · have : l = [] := by cases l with
      | nil => rfl
      | cons a l => simp [br] at e
    subst this
    have : n = 0 := by simpa using hn
    subst this
    exact ⟨.slice none 0 0, rfl, rfl⟩
  · have e1 : optN (some (Value.int .i64 (n : Int))) (br l).length = some n := by simp [optN, isNat]
    have e2 : optN none 0 = some 0 := rfl
    have hb : (br l).take n = br (l.take n) := by simp [br, List.map_take]
    have key : ∀ e', b2s s (.slice (some ⟨b, 0, some 0⟩) n e') = some (.string ⟨⟨bts (l.take n)⟩⟩) := fun e' => by
      have hr : rowsOf s 1 n (.slice (some ⟨b, 0, some 0⟩) n e') = some (br (l.take n)) := by
        rw [rowsOf_row hg (Nat.le_refl _) (by rw [br_length]; omega), List.drop_zero, hb]
      simp only [b2s, lenV, Option.bind_some, hr, bytesOf_br, Option.map_some]
    rcases he with rfl | rfl
    · refine ⟨.slice (some ⟨b, 0, some 0⟩) n 1, ?_, key 1⟩
      unfold slc
      rw [e2, bds]
      show ((optN (some (Value.int .i64 (n : Int))) (br l).length).bind _) = _
      rw [e1, bds, hg]
      show (if 1 = 1 ∧ 0 ≤ n then (if 1 = 1 then (if n ≤ (br l).length then some (Value.slice (some ⟨b, 0 + 0, some 0⟩) (n - 0) 1) else none) else _) else none) = _
      rw [if_pos ⟨rfl, Nat.zero_le _⟩, if_pos rfl, if_pos (by rw [br_length]; exact hn)]
      rfl
    · refine ⟨.slice (some ⟨b, 0, some 0⟩) n (2 * (br l).length), ?_, key _⟩
      unfold slc
      rw [e2, bds]
      show ((optN (some (Value.int .i64 (n : Int))) (br l).length).bind _) = _
      rw [e1, bds, hg]
      show (if 1 = 1 ∧ 0 ≤ n then (if 2 * (br l).length = 1 then _ else if n ≤ 2 * (br l).length / 2 then some (Value.slice (some ⟨b, 0 + 0, some 0⟩) (n - 0) (2 * (2 * (br l).length / 2 - 0))) else none) else none) = _
      rw [if_pos ⟨rfl, Nat.zero_le _⟩, if_neg (by omega), if_pos (by rw [br_length]; omega), show 2 * (2 * (br l).length / 2 - 0) = 2 * (br l).length by omega]
      rfl
theorem pre_has {x y : List Int} (h : x.take (min x.length y.length) = y.take (min x.length y.length)) : ∃ bs, Has bs 0 x ∧ Has bs 0 y := by
  by_cases c : x.length ≤ y.length
  · rw [Nat.min_eq_left c, List.take_length] at h
    refine ⟨y, ?_, by simpa using has_mid [] y []⟩
    have := has_mid [] x (y.drop x.length)
    have e : x ++ y.drop x.length = y := by
      have := List.take_append_drop x.length y
      rw [← h] at this
      exact this
    simpa [e] using this
  · rw [Nat.min_eq_right (by omega), List.take_length] at h
    refine ⟨x, by simpa using has_mid [] x [], ?_⟩
    have := has_mid [] y (x.drop y.length)
    have e : y ++ x.drop y.length = x := by
      have := List.take_append_drop y.length x
      rw [h] at this
      exact this
    simpa [e] using this
theorem rI {n : Int} (h : (Lit.int .i64 n).wf = true) : i64R n := wf_i64 h
theorem rU {n : Int} (h : (Lit.int .u64 n).wf = true) : u64R n := ⟨(wf_u64 h).1, by have := (wf_u64 h).2; omega⟩
theorem pk_arg2 {s : St} {r : List Value} (h : Leaf.Are s [.b, .b, .i .i64, .b, .i .i64, .i .i64, .i .i64, .i .i64, .i .u64, .i .i64, .i .i64, .i .u64, .i .i64, .i .u64, .i .i64, .i .i64, .i .u64, .i .i64, .i .u64, .i .i64, .i .i64, .i .i64, .b, .i .i64, .i .i64, .i .u64, .i .i64, .i .u64, .i .i64, .i .i64, .i .u64, .i .i64, .i .u64, .sl [.i .u8]] r) : ∃ p : Pk, r = p.cs ∧ PkA p ∧ PkR p ∧ ValIs s p.ans.v := by
  have e : ∀ v, Leaf.Is s (.sl [.i .u8]) v → ValIs s v := fun _ h => h
  obtain ⟨_, _, rfl, k1, _, _, rfl, k2, _, _, rfl, k3, _, _, rfl, k4, _, _, rfl, k5, _, _, rfl, k6, _, _, rfl, k7, _, _, rfl, k8, _, _, rfl, k9, _, _, rfl, k10, _, _, rfl, k11, _, _, rfl, k12, _, _, rfl, k13, _, _, rfl, k14, _, _, rfl, k15, _, _, rfl, k16, _, _, rfl, k17, _, _, rfl, k18, _, _, rfl, k19, _, _, rfl, k20, _, _, rfl, k21, _, _, rfl, k22, _, _, rfl, k23, _, _, rfl, k24, _, _, rfl, k25, _, _, rfl, k26, _, _, rfl, k27, _, _, rfl, k28, _, _, rfl, k29, _, _, rfl, k30, _, _, rfl, k31, _, _, rfl, k32, _, _, rfl, k33, v, _, rfl, hv, rfl⟩ := h
  simp only [Leaf.Is] at k1 k2 k3 k4 k5 k6 k7 k8 k9 k10 k11 k12 k13 k14 k15 k16 k17 k18 k19 k20 k21 k22 k23 k24 k25 k26 k27 k28 k29 k30 k31 k32 k33
  obtain ⟨a1, rfl⟩ := k1
  obtain ⟨a2, rfl⟩ := k2
  obtain ⟨a3, rfl, w3⟩ := k3
  obtain ⟨a4, rfl⟩ := k4
  obtain ⟨a5, rfl, w5⟩ := k5
  obtain ⟨a6, rfl, w6⟩ := k6
  obtain ⟨a7, rfl, w7⟩ := k7
  obtain ⟨a8, rfl, w8⟩ := k8
  obtain ⟨a9, rfl, w9⟩ := k9
  obtain ⟨a10, rfl, w10⟩ := k10
  obtain ⟨a11, rfl, w11⟩ := k11
  obtain ⟨a12, rfl, w12⟩ := k12
  obtain ⟨a13, rfl, w13⟩ := k13
  obtain ⟨a14, rfl, w14⟩ := k14
  obtain ⟨a15, rfl, w15⟩ := k15
  obtain ⟨a16, rfl, w16⟩ := k16
  obtain ⟨a17, rfl, w17⟩ := k17
  obtain ⟨a18, rfl, w18⟩ := k18
  obtain ⟨a19, rfl, w19⟩ := k19
  obtain ⟨a20, rfl, w20⟩ := k20
  obtain ⟨a21, rfl, w21⟩ := k21
  obtain ⟨a22, rfl, w22⟩ := k22
  obtain ⟨a23, rfl⟩ := k23
  obtain ⟨a24, rfl, w24⟩ := k24
  obtain ⟨a25, rfl, w25⟩ := k25
  obtain ⟨a26, rfl, w26⟩ := k26
  obtain ⟨a27, rfl, w27⟩ := k27
  obtain ⟨a28, rfl, w28⟩ := k28
  obtain ⟨a29, rfl, w29⟩ := k29
  obtain ⟨a30, rfl, w30⟩ := k30
  obtain ⟨a31, rfl, w31⟩ := k31
  obtain ⟨a32, rfl, w32⟩ := k32
  obtain ⟨a33, rfl, w33⟩ := k33
  exact ⟨⟨a1, a2, a3, a4, a5, a6, ⟨a7, a8, a9, ⟨a10, a11, a12, a13, a14⟩, ⟨a15, a16, a17, a18, a19⟩, a20, a21⟩, ⟨a22, a23, ⟨a24, a25, a26, a27, a28⟩, ⟨a29, a30, a31, a32, a33⟩, v⟩⟩, rfl, ⟨(wf_u64 w9).1, (wf_u64 w14).1, (wf_u64 w19).1, (wf_u64 w28).1, (wf_u64 w33).1⟩,
    ⟨rI w3, rI w5, rI w6, rI w20, rI w21, rI w10, rU w12, rI w15, rU w17, rI w24, rU w26, rI w29, rU w31⟩, e _ hv⟩
theorem light_y {s : St} (p : Pk) (hA : PkA p) (hR : PkR p) (hv : ValIs s p.ans.v) : ∃ q : Pk, l04light.r (.agg ⟨p.cs⟩) s = some (.agg ⟨q.cs⟩) ∧ PkA q ∧ PkR q ∧ ∃ l, Byt s q.ans.v (br l) ∧ okY l ∧ l.length ≤ 3000 := by
  obtain ⟨l, hb, hy⟩ := val_br hv
  have hl := hb.lenL
  rw [br_length] at hl
  have hbx := hb.bx
  by_cases c : 3000 < l.length
  · obtain ⟨w, l', g1, g2, g3, g4⟩ := val_cut hv hl (k := 3000) (by omega)
    have c' : (3000 : Int) < (l.length : Int) := by omega
    have g1 : slc s 1 p.ans.v none (some (.int .i64 3000)) none = some w := g1
    have wbx := g2.bx
    refine ⟨{ p with ans := { p.ans with v := w } }, ?_, ⟨hA.wb, hA.r, hA.r2, hA.l, hA.ar⟩, ⟨hR.fn, hR.tn, hR.id, hR.oa, hR.oo, hR.rid, hR.rn, hR.r2id, hR.r2n, hR.lid, hR.ln, hR.aid, hR.an⟩, l', g2, g4, by omega⟩
    simp only [l04light.r, l04light.t, Pk.cs, aC, Ans.cs, Rf.cs, sy, reduceIte, Nat.reduceAdd, Nat.reduceLeDiff, Nat.reduceLT, Nat.reduceEqDiff, Int.reduceEq, Int.reduceLT, Int.reduceLE, Int.reduceNe, ly, hl, c', g1, wbx]
  · have c' : ¬ (3000 : Int) < (l.length : Int) := by omega
    refine ⟨p, ?_, hA, hR, l, hb, hy, by omega⟩
    simp only [l04light.r, l04light.t, Pk.cs, aC, Ans.cs, Rf.cs, sy, reduceIte, Nat.reduceAdd, Nat.reduceLeDiff, Nat.reduceLT, Nat.reduceEqDiff, Int.reduceEq, Int.reduceLT, Int.reduceLE, Int.reduceNe, ly, hl, c']
theorem vb_of {s : St} {v : Value} {l : List Int} (h : Byt s v (br l)) : VB s v ⟨⟨bts l⟩⟩ l.length := by
  have := h.lenL
  rw [br_length] at this
  exact ⟨h.bx, byt_b2s h, this⟩
theorem enc_ok {p : Pk} {lb : List Int} (hA : PkA p) (hR : PkR p) (hy : okY lb) (hl : lb.length ≤ 65536) (ok : okPk p ⟨⟨bts lb⟩⟩ lb.length) : okY (wBs ((encF p).map (fb lb))) ∧ (wBs ((encF p).map (fb lb))).length ≤ 2000000 := by
  have hg : ∀ f ∈ (encF p).map (fb lb), FdA f.1 ∧ okP f ∧ okY f.2 := by
    intro f hf
    obtain ⟨g, hg, rfl⟩ := List.mem_map.1 hf
    exact good_of hy hl (encF_plain hA hR ok g hg)
  obtain ⟨h1, h2⟩ := okY_wBs hg
  have := encF_len ok
  rw [List.length_map] at h2
  exact ⟨h1, by omega⟩
theorem law (s : St) (us : List Value) (ha : AllRo s) (hf : ∀ b, s.n ≤ b → s.get b = none) (h : Args s [(true, [.b, .b, .i .i64, .b, .i .i64, .i .i64, .i .i64, .i .i64, .i .u64, .i .i64, .i .i64, .i .u64, .i .i64, .i .u64, .i .i64, .i .i64, .i .u64, .i .i64, .i .u64, .i .i64, .i .i64, .i .i64, .b, .i .i64, .i .i64, .i .u64, .i .i64, .i .u64, .i .i64, .i .i64, .i .u64, .i .i64, .i .u64, .sl [.i .u8]]), (true, [.b, .b, .i .i64, .b, .i .i64, .i .i64, .i .i64, .i .i64, .i .u64, .i .i64, .i .i64, .i .u64, .i .i64, .i .u64, .i .i64, .i .i64, .i .u64, .i .i64, .i .u64, .i .i64, .i .i64, .i .i64, .b, .i .i64, .i .i64, .i .u64, .i .i64, .i .u64, .i .i64, .i .i64, .i .u64, .i .i64, .i .u64, .sl [.i .u8]])] us) : ∃ s', l04MsgApart.w us s = some (.bool true, s') := by
  unfold Args Args Args Arg at h
  obtain ⟨a1, _, rfl, ⟨c1, rfl, hc1⟩, a2, _, rfl, ⟨c2, rfl, hc2⟩, rfl⟩ := h
  obtain ⟨p0, rfl, x1, x1', x2⟩ := pk_arg2 hc1
  obtain ⟨q0, rfl, y1, y1', y2⟩ := pk_arg2 hc2
  obtain ⟨p, p1, hA, hR, lb, hb, hy, hl⟩ := light_y p0 x1 x1' x2
  obtain ⟨q, q1, hA', hR', lb', hb', hy', hl'⟩ := light_y q0 y1 y1' y2
  have hF : Fresh s := hf
  have l0 : ∀ p : Pk, bx (.agg ⟨p.cs⟩) = some p.cs := fun _ => rfl
  have l1 : ∀ p : Pk, lal p.cs 0 34 = some (.agg ⟨p.cs⟩) := fun _ => rfl
  have l4 : ∀ p q : Pk, stl p.cs 0 34 (.agg ⟨q.cs⟩) = some q.cs := fun _ _ => rfl
  have al : l04awakeC.r s = some (.bool true) := rfl
  have nt : un .not (.bool true) = some (.bool false) := rfl
  have n0 : eqb [1] false true (.int .i64 0) (.int .i64 0) = some (.bool false) := rfl
  have n40 : eqb [1] false true (.int .i64 40) (.int .i64 0) = some (.bool true) := rfl
  by_cases ok : okPk p ⟨⟨bts lb⟩⟩ lb.length
  · obtain ⟨w1, s1, e1, e2, e3, e4⟩ := encode_v p hF hA hR (vb_of hb) hb (by omega) ok
    have hbs1 := hb.mr e2 hF
    have hbs1' := hb'.mr e2 hF
    by_cases ok' : okPk q ⟨⟨bts lb'⟩⟩ lb'.length
    · obtain ⟨w2, s2, g1, g2, g3, g4⟩ := encode_v q e4 hA' hR' (vb_of hbs1') hbs1' (by omega) ok'
      have e3' := e3.more g2 e4
      obtain ⟨o1, o2⟩ := enc_ok hA hR hy (by omega) ok
      obtain ⟨o1', o2'⟩ := enc_ok hA' hR' hy' (by omega) ok'
      have hsame := rsameK p q s2 (vb_of (hbs1.mr g2 e4)) (vb_of (hbs1'.mr g2 e4))
      have hiff : ((⟨⟨bts ((wBs ((encF p).map (fb lb))).take (min (wBs ((encF p).map (fb lb))).length (wBs ((encF q).map (fb lb'))).length))⟩⟩ : ByteArray) = ⟨⟨bts ((wBs ((encF q).map (fb lb'))).take (min (wBs ((encF p).map (fb lb))).length (wBs ((encF q).map (fb lb'))).length))⟩⟩) ↔ sameK p q ⟨⟨bts lb⟩⟩ ⟨⟨bts lb'⟩⟩ := by
        constructor
        · intro h
          have h := congrArg (fun b : ByteArray => b.data.toList) h
          dsimp only at h
          have h := bts_inj (fun y hy => o1 y (List.mem_of_mem_take hy)) (fun y hy => o1' y (List.mem_of_mem_take hy)) h
          obtain ⟨bs, b1, b2⟩ := pre_has h
          exact apart hA hR hA' hR' hy hy' (by omega) (by omega) ok ok' b1 b2
        · intro h
          rw [together ok ok' hy hy' h]
      generalize wBs ((encF p).map (fb lb)) = X at *
      generalize wBs ((encF q).map (fb lb')) = Y at *
      have lx := e3'.isR.len
      have ly := g3.isR.len
      rw [br_length] at lx ly
      obtain ⟨u1, v1, v2⟩ := ful_take e3' (n := min X.length Y.length) (by omega)
      obtain ⟨u2, v3, v4⟩ := ful_take g3 (n := min X.length Y.length) (by omega)
      have hmn : mn2 (.int .i64 (X.length : Int)) (.int .i64 (Y.length : Int)) = some (.int .i64 ((min X.length Y.length : Nat) : Int)) := by
        rw [mn2_int, show (if (Y.length : Int) < (X.length : Int) then (Y.length : Int) else (X.length : Int)) = ((min X.length Y.length : Nat) : Int) by split <;> omega]
      have hfin : ∃ b1 b2 : Bool, eqb [2] false false (.string ⟨⟨bts (X.take (min X.length Y.length))⟩⟩) (.string ⟨⟨bts (Y.take (min X.length Y.length))⟩⟩) = some (.bool b1) ∧ r04Same.r (.agg ⟨p.cs⟩) (.agg ⟨q.cs⟩) s2 = some (.bool b2) ∧ b1 = b2 := by
        refine ⟨_, _, eqb2, hsame, ?_⟩
        rw [Bool.eq_iff_iff]
        simp only [decide_eq_true_eq]
        exact hiff
      obtain ⟨c1, c2, d1, d2, rfl⟩ := hfin
      have eB : eqb [0] false false (.bool c1) (.bool c1) = some (.bool true) := by rw [eqb0]; simp
      refine ⟨s2, ?_⟩
      show l04MsgApart.v _ _ s = _
      unfold l04MsgApart.v l04MsgApart.t
      simp only [std_bd, std_cnd, std_gd, l0, al, nt, cndf, l1, p1, q1, l4, e1, xtr_eq, List.getElem?_cons_zero, List.getElem?_cons_succ, g1, n0, gdff, pikf, lx, ly, hmn, v1, v2, v3, v4, d1, d2, eB, bds]
    · have g1 := encode_no q e4 hA' (vb_of hbs1') ok'
      have h1 := rcheckP p s1 e4 hA (vb_of hbs1)
      have h2 := rcheckP q s1 e4 hA' (vb_of hbs1')
      rw [if_pos ok] at h1
      rw [if_neg ok'] at h2
      refine ⟨s1, ?_⟩
      show l04MsgApart.v _ _ s = _
      unfold l04MsgApart.v l04MsgApart.t
      simp only [std_bd, std_cnd, std_gd, l0, al, nt, cndt, cndf, l1, p1, q1, l4, e1, xtr_eq, List.getElem?_cons_zero, List.getElem?_cons_succ, g1, n0, n40, gdff, pikf, h1, h2, bds]
  · have e1 := encode_no p hF hA (vb_of hb) ok
    have h1 := rcheckP p s hF hA (vb_of hb)
    rw [if_neg ok] at h1
    have fin : ∀ {v : Value} {er : Int} {s2 : St}, msg_Encode.v (.agg ⟨q.cs⟩) s = some (.tuple ⟨[v, .int .i64 er]⟩, s2) → r04Check.r (.agg ⟨p.cs⟩) s2 = some (.int .i64 40) → l04MsgApart.v (.agg ⟨p0.cs⟩) (.agg ⟨q0.cs⟩) s = some (.bool true, s2) := by
      intro v er s2 g1 h2
      unfold l04MsgApart.v l04MsgApart.t
      simp only [std_bd, std_cnd, std_gd, l0, al, nt, cndt, cndf, l1, p1, q1, l4, e1, xtr_eq, List.getElem?_cons_zero, List.getElem?_cons_succ, g1, n40, gdtf, gdun, pikt, h2, bds]
    by_cases ok' : okPk q ⟨⟨bts lb'⟩⟩ lb'.length
    · obtain ⟨w2, s2, g1, g2, g3, g4⟩ := encode_v q hF hA' hR' (vb_of hb') hb' (by omega) ok'
      have h2 := rcheckP p s2 g4 hA (vb_of (hb.mr g2 hF))
      rw [if_neg ok] at h2
      exact ⟨s2, fin g1 h2⟩
    · exact ⟨s, fin (encode_no q hF hA' (vb_of hb') ok') h1⟩
end MsgApart
end Go.Proofs.Yteapmnolmfickaa
