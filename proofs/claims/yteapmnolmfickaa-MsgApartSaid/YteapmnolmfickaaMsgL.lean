/-
  Encode of the program and of the reference: a packet that may be, as bytes.
-/
import Derived.Test.YteapmnolmfickaaMsgK
set_option linter.unusedSimpArgs false
set_option linter.unusedVariables false
set_option maxRecDepth 100000
set_option maxHeartbeats 4000000
namespace Go.Proofs.Yteapmnolmfickaa
open Go.Sim Go.Sim.Bt
attribute [local congr] bdc cndc itec gdc gdSc gdUc
theorem encF_len {p : Pk} {x : ByteArray} {n : Nat} (ok : okPk p x n) : (encF p).length ≤ 20 := by
  unfold encF
  rw [List.length_append]
  have h6 : [mT p.rep, mT p.fa, mI p.fn, mT p.ta, mI p.tn, mI p.id].length = 6 := rfl
  rw [h6]
  split
  · unfold ansF
    have h1 := sideF_len p.ans.l
    have h2 := sideF_len p.ans.r
    simp only [List.length_cons, List.length_append]
    split <;> split <;> simp <;> omega
  · rename_i hrep
    have oka : okA p.ask := by
      rcases ok.2 with ⟨h, _⟩ | ⟨_, _, h⟩
      · exact absurd h hrep
      · exact h
    unfold askF
    rw [fieldsA_ok oka]
    simp only [Option.getD_some, List.length_cons]
    unfold hasF
    repeat' split
    all_goals simp
theorem encode_no {s : St} (p : Pk) {x : ByteArray} {n : Nat} (hf : Fresh s) (hA : PkA p) (hv : VB s p.ans.v x n) (ok : ¬ okPk p x n) : msg_Encode.v (.agg ⟨p.cs⟩) s = some (.tuple ⟨[nilB, .int .i64 40]⟩, s) := by
  have e1 := pcheckP p s hf hA hv
  rw [if_neg ok] at e1
  have b34 : bx (.agg ⟨p.cs⟩) = some p.cs := rfl
  have l34 : lal p.cs 0 34 = some (.agg ⟨p.cs⟩) := rfl
  have e0 : eqb [1] false true (.int .i64 40) (.int .i64 0) = some (.bool true) := rfl
  unfold msg_Encode.v msg_Encode.t
  simp only [std_bd, std_cnd, b34, l34, e1, e0, cndt, bds]
  rfl
theorem app_keepG {s s' : St} {v w v' : Value} {c : Nat} {k : Blk} (f : Fresh s) (h : app s 14 128 v w = some (v', s')) (hc : s.get c = some k) (hv : ∀ b i j len e, v = .slice (some ⟨b, i, j⟩) len e → b ≠ c) : s'.get c = some k := by
  have hlt := f.lt hc
  unfold app at h
  split at h
  · cases h
  · split at h
    · cases h
    · split at h
      · split at h
        · cases h; exact hc
        · split at h
          · cases h
            rw [get_new_ne (by omega)]; exact hc
          · cases h
      · rename_i b i len e
        have hb := hv b i (some 0) len e rfl
        split at h
        · split at h
          · split at h
            · split at h
              · split at h
                · cases h
                · split at h
                  · cases h; exact hc
                  · split at h
                    · cases h
                      rw [get_new_ne (by rw [del_n]; omega), get_del_ne (fun e => hb e.symm)]; exact hc
                    · cases h
              · split at h
                · split at h
                  · cases h
                  · cases h
                    rw [get_put_ne (fun e => hb e.symm)]; exact hc
                · cases h
                  rw [get_new_ne (by omega)]; exact hc
            · cases h
          · cases h
        · cases h
      · cases h
theorem addr_step {s0 s : St} {c j : Nat} {lv : Value} {fs : List Fd} {b0 b1 : Bool} {n0 n1 : Int} {z : List Value} (f : Fresh s) (m : More s0 s) (h : Ful s0.n s 14 lv (fs.map Fd.cs)) (hl : fs.length ≤ 20) (hc : s.get c = some (.row 2 [[.bool b0, .int .i64 n0], [.bool b1, .int .i64 n1]] false)) (hj : j < 2) :
    ∃ lv' s', More s0 s' ∧ Fresh s' ∧ Ful s0.n s' 14 lv' ((fs ++ [mT (if j = 0 then b0 else b1), mI (if j = 0 then n0 else n1)]).map Fd.cs) ∧ s'.get c = some (.row 2 [[.bool b0, .int .i64 n0], [.bool b1, .int .i64 n1]] false) ∧
      ∀ e, iter (msg_Encode.l6 std) (e + 1) [lv, .slice (some ⟨c, 0, some 0⟩) 2 4, .int .i64 2, .int .i64 (j : Int), .agg ⟨z⟩] s = iter (msg_Encode.l6 std) e [lv', .slice (some ⟨c, 0, some 0⟩) 2 4, .int .i64 2, .int .i64 ((j + 1 : Nat) : Int), .agg ⟨z⟩] s' := by
  have i1 : idx s 2 (.slice (some ⟨c, 0, some 0⟩) 2 4) (.int .i64 (j : Int)) = some (.pointer (some ⟨c, j, some 0⟩)) := by
    have := idx_row (k := .i64) (i := 0) (n := (j : Int)) (len := 2) (e := 4) hc (by omega) (by omega)
    rwa [Int.toNat_natCast, Nat.zero_add] at this
  have i2 : lda s 2 (.pointer (some ⟨c, j, some 0⟩)) = some (.agg ⟨[.bool (if j = 0 then b0 else b1), .int .i64 (if j = 0 then n0 else n1)]⟩) := by
    rw [lda_row hc]
    rcases (show j = 0 ∨ j = 1 by omega) with rfl | rfl <;> rfl
  generalize (if j = 0 then b0 else b1) = b at *
  generalize (if j = 0 then n0 else n1) = n at *
  have lt0 : bin .lss (.int .i64 (j : Int)) (.int .i64 2) = some (.bool true) := by rw [bin_lss, decide_eq_true (by omega)]
  have add0 : bin .add (.int .i64 (j : Int)) (.int .i64 1) = some (.int .i64 ((j + 1 : Nat) : Int)) := by
    rw [bin_add, wrap64 (by omega) (by omega)]; rfl
  have z2b : bx (.agg #[.bool false, .int .i64 0]) = some [.bool false, .int .i64 0] := rfl
  have s2 : stl [.bool false, .int .i64 0] 0 2 (.agg ⟨[.bool b, .int .i64 n]⟩) = some [.bool b, .int .i64 n] := rfl
  have k0 : lcl [.bool b, .int .i64 n] 0 = some (.bool b) := rfl
  have k1 : lcl [.bool b, .int .i64 n] 1 = some (.int .i64 n) := rfl
  have hfl : (fs.map Fd.cs).length = fs.length := by simp
  -- two fields made and appended
  have m1 : More s (s.new (.row 14 [(mT b).cs, (mI n).cs] false)) := .new
  obtain ⟨lv', s', p1, p2, p3, p4⟩ := fld2_more (mT b) (mI n) f h m (by omega)
  have hkeep : s'.get c = some (.row 2 [[.bool b0, .int .i64 n0], [.bool b1, .int .i64 n1]] false) := by
    have g1 := m1.get f hc
    refine app_keepG (m1.fresh f) p1 g1 fun b' i j len e heq hbc => ?_
    rcases h with ⟨rfl, _⟩ | ⟨b2, e2, _, rfl, hg, _⟩
    · cases heq
    · injection heq with h1
      injection h1 with h1
      injection h1 with h1
      subst h1 hbc
      rw [hg] at hc
      cases hc
  refine ⟨lv', s', p2, p4, p3, hkeep, fun e => ?_⟩
  rw [iter_succ]
  generalize iter (msg_Encode.l6 std) e = R
  unfold msg_Encode.l6 msg_Encode.l6.p1
  simp only [std_bd, std_cnd, List.getD_cons_zero, List.getD_cons_succ, lt0, cndt, i1, i2, z2b, s2, k0, k1, eT, eI, bls_2, p1, add0, cellsA, bds]
theorem encode_v {s : St} (p : Pk) {x : ByteArray} {lb : List Int} (hf : Fresh s) (hA : PkA p) (hR : PkR p) (hv : VB s p.ans.v x lb.length) (hb : Byt s p.ans.v (br lb)) (hl : lb.length ≤ 65536) (ok : okPk p x lb.length) : EncIs s p lb (msg_Encode.v (.agg ⟨p.cs⟩) s) := by
  have e1 := pcheckP p s hf hA hv
  rw [if_pos ok] at e1
  have hpl := encF_plain hA hR ok
  have hlen := encF_len ok
  have b34 : bx (.agg ⟨p.cs⟩) = some p.cs := rfl
  have l34 : lal p.cs 0 34 = some (.agg ⟨p.cs⟩) := rfl
  have c0 : lcl p.cs 0 = some (.bool p.rep) := rfl
  have c5 : lcl p.cs 5 = some (.int .i64 p.id) := rfl
  have c6 : lcl p.cs 6 = some (.int .i64 p.ask.k) := rfl
  have l12 : lal p.cs 1 2 = some (.agg ⟨[.bool p.fa, .int .i64 p.fn]⟩) := rfl
  have l32 : lal p.cs 3 2 = some (.agg ⟨[.bool p.ta, .int .i64 p.tn]⟩) := rfl
  have lan : lal p.cs 21 13 = some (.agg ⟨p.ans.cs⟩) := rfl
  have las : lal p.cs 6 15 = some (.agg ⟨aC p.ask⟩) := rfl
  have e0 : eqb [1] false true (.int .i64 0) (.int .i64 0) = some (.bool false) := rfl
  have st1 := bls_1 (mT p.rep) s
  obtain ⟨m1, m2, m3⟩ := fls_new [mT p.rep] hf
  have m2 : Ful s.n (s.new (.row 14 [(mT p.rep).cs] false)) 14 (.slice (some ⟨s.n, 0, some 0⟩) 1 2) (([mT p.rep] : List Fd).map Fd.cs) := m2
  have m1 : More s (s.new (.row 14 [(mT p.rep).cs] false)) := m1
  have m3 : Fresh (s.new (.row 14 [(mT p.rep).cs] false)) := m3
  generalize s.new (.row 14 [(mT p.rep).cs] false) = s1 at *
  have st2 : ((bls 2 (List.replicate 2 [.bool false, .int .i64 0]) [(0, .agg ⟨[.bool p.fa, .int .i64 p.fn]⟩), (1, .agg ⟨[.bool p.ta, .int .i64 p.tn]⟩)]).bind fun rows => als s1 2 2 rows) = some (.slice (some ⟨s1.n, 0, some 0⟩) 2 4, s1.new (.row 2 [[.bool p.fa, .int .i64 p.fn], [.bool p.ta, .int .i64 p.tn]] false)) := rfl
  have m4 : More s1 (s1.new (.row 2 [[.bool p.fa, .int .i64 p.fn], [.bool p.ta, .int .i64 p.tn]] false)) := .new
  have g4 : (s1.new (.row 2 [[.bool p.fa, .int .i64 p.fn], [.bool p.ta, .int .i64 p.tn]] false)).get s1.n = some (.row 2 [[.bool p.fa, .int .i64 p.fn], [.bool p.ta, .int .i64 p.tn]] false) := get_new_same
  generalize s1.new (.row 2 [[.bool p.fa, .int .i64 p.fn], [.bool p.ta, .int .i64 p.tn]] false) = s2 at *
  have f4 := m4.fresh m3
  obtain ⟨v1, s3, a1, a2, a3, a4, a5⟩ := addr_step (j := 0) (z := p.cs) f4 (m1.trans m4) (m2.more m4 m3) (by simp) g4 (by omega)
  obtain ⟨v2, s4, d1, d2, d3, d4, d5⟩ := addr_step (j := 1) (z := p.cs) a2 a1 a3 (by simp) a4 (by omega)
  have ll : lenL (.slice (some ⟨s1.n, 0, some 0⟩) 2 4) = some (.int .i64 2) := rfl
  have lp : iter (msg_Encode.l6 std) BIG [.slice (some ⟨s.n, 0, some 0⟩) 1 2, .slice (some ⟨s1.n, 0, some 0⟩) 2 4, .int .i64 2, .int .i64 0, .agg ⟨p.cs⟩] s2 = some (0, [v2, .agg ⟨p.cs⟩], s4) := by
    have q3 := a5 (BIG - 1)
    have r3 := d5 (BIG - 2)
    rw [show BIG - 1 + 1 = BIG from rfl] at q3
    rw [show BIG - 2 + 1 = BIG - 1 from rfl] at r3
    refine Eq.trans q3 (Eq.trans r3 ?_)
    have lt1 : bin .lss (.int .i64 ((1 + 1 : Nat) : Int)) (.int .i64 2) = some (.bool false) := rfl
    rw [show BIG - 2 = (BIG - 3) + 1 from rfl, iter_succ]
    unfold msg_Encode.l6
    simp only [std_bd, std_cnd, List.getD_cons_zero, List.getD_cons_succ, lt1, cndf, cellsA, bds]
  obtain ⟨v3, s5, h1, h2, h3, h4⟩ := fld_more (mI p.id) d2 d3 d1 (by simp)
  have h3 : Ful s.n s5 14 v3 ([mT p.rep, mT p.fa, mI p.fn, mT p.ta, mI p.tn, mI p.id].map Fd.cs) := h3
  have fin : ∀ {v : Value} {s3 : St}, More s s3 → Fresh s3 → Ful s.n s3 14 v ((encF p).map Fd.cs) → ∃ w s', pack_Pack.v v s3 = some (.tuple ⟨[w, .int .i64 0]⟩, s') ∧ More s s' ∧ Ful s.n s' 1 w (br (wBs ((encF p).map (fb lb)))) ∧ Fresh s' := by
    intro v s3 mo fr hu
    have hfl := fl_of fr hu (hb.mr mo hf) hpl
    have hok := all_ok (w := p.ans.v) hl hpl
    obtain ⟨w, s', q1, q2, q3, q4⟩ := pack_v hfl (Nat.le_refl _) (by rw [List.length_map]; omega) fr
    have oe : outE ((encF p).map (fb lb)) = 0 := by unfold outE; rw [if_pos hok]
    have ob : outB ((encF p).map (fb lb)) = wBs ((encF p).map (fb lb)) := by unfold outB; rw [if_pos hok]
    rw [oe] at q1
    rw [ob] at q3
    exact ⟨w, s', q1, mo.trans q2, q3.le mo.n, q4⟩
  cases hrep : p.rep
  · have oka : okA p.ask := by
      rcases ok.2 with ⟨h, _⟩ | ⟨_, _, h⟩
      · rw [hrep] at h; cases h
      · exact h
    have he : encF p = [mT p.rep, mT p.fa, mI p.fn, mT p.ta, mI p.tn, mI p.id] ++ (mN p.ask.k :: hasF p.ask) := by
      unfold encF askF
      rw [hrep, fieldsA_ok oka]; rfl
    obtain ⟨u, s6, bo, i1, i2, i3, i4, i5⟩ := ask_v p.ask hA.wb hA.r hA.r2 h4
    obtain ⟨gs, j1, j2⟩ := i5 (i4.2 ((passA_iff _).2 oka))
    rw [fieldsA_ok oka] at j1
    cases j1
    have cv : cvi .u64 (.int .i64 p.ask.k) = some (.int .u64 p.ask.k) := by
      have := oka.1
      rw [cvi_int, wrapu64 (by omega) (by omega)]
    obtain ⟨v4, s7, k1, k2, k3, k4⟩ := fld_more (mN p.ask.k) i3 (h3.more i2 h4) (h2.trans i2) (by simp)
    have j3 : Ful s5.n s7 14 u ((hasF p.ask).map Fd.cs) := by
      rcases j2 with e | ⟨c, e, x0, x1, x2, x3⟩
      · exact .inl e
      · refine .inr ⟨c, e, x0, x1, app_keepG i3.new k1 (More.new.get i3 x2) (fun b' i j len e' heq hbc => ?_), x3⟩
        rcases h3 with ⟨rfl, _⟩ | ⟨b2, e2, _, rfl, hg, _⟩
        · cases heq
        · injection heq with h1
          injection h1 with h1
          injection h1 with h1
          have := h4.lt hg
          omega
    obtain ⟨v5, s8, o1, o2, o3, o4⟩ := sl_more k4 k3 j3 k2 (by
      rw [he, List.length_append] at hlen
      simp at hlen ⊢; omega)
    obtain ⟨w, s', q1, q2⟩ := fin o2 o4 (by rw [he]; simpa using o3)
    refine ⟨w, s', ?_, q2⟩
    rw [hrep] at c0 st1
    unfold msg_Encode.v msg_Encode.t msg_Encode.t.p1
    simp only [std_bd, std_cnd, std_it, b34, l34, e1, e0, cndf, c0, eT, st1, l12, l32, st2, ll, lp, List.getD_cons_zero, List.getD_cons_succ, cellsA, c5, eI, bls_1, h1, las, i1, xtr_eq, List.getElem?_cons_zero, List.getElem?_cons_succ, c6, cv, eN, k1, o1, q1, bds]
  · obtain ⟨u, s6, i1, i2, i3, i4⟩ := ansF_v p.ans hv.bx (by
      have okn : okN p.ans x lb.length := by
        rcases ok.2 with ⟨_, _, h⟩ | ⟨h, _⟩
        · exact h
        · rw [hrep] at h; cases h
      rcases okn with ⟨h, _⟩ | ⟨h, _⟩ | ⟨h | h, _⟩ <;> rw [h] <;> exact ⟨by decide, by decide⟩) h4
    have he : encF p = [mT p.rep, mT p.fa, mI p.fn, mT p.ta, mI p.tn, mI p.id] ++ ansF p.ans := by
      unfold encF
      rw [hrep]; rfl
    obtain ⟨v4, s7, k1, k2, k3, k4⟩ := sl_more i4 (h3.more i2 h4) i3 (h2.trans i2) (by
      rw [he, List.length_append] at hlen
      simp at hlen ⊢; omega)
    obtain ⟨w, s', q1, q2⟩ := fin k2 k4 (by rw [he]; exact k3)
    refine ⟨w, s', ?_, q2⟩
    rw [hrep] at c0 st1
    unfold msg_Encode.v msg_Encode.t msg_Encode.t.p1
    simp only [std_bd, std_cnd, std_it, b34, l34, e1, e0, cndt, cndf, c0, eT, st1, l12, l32, st2, ll, lp, List.getD_cons_zero, List.getD_cons_succ, cellsA, c5, eI, bls_1, h1, lan, i1, k1, q1, xtr_eq, List.getElem?_cons_zero, List.getElem?_cons_succ, bds]
end Go.Proofs.Yteapmnolmfickaa
