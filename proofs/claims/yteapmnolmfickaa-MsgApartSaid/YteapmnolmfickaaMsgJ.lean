/-
  A packet's bytes, as the program makes them: an answer's fields.
-/
import Derived.Test.YteapmnolmfickaaMsgI
set_option linter.unusedSimpArgs false
set_option linter.unusedVariables false
set_option maxRecDepth 100000
set_option maxHeartbeats 4000000
namespace Go.Proofs.Yteapmnolmfickaa
open Go.Sim Go.Sim.Bt
attribute [local congr] bdc cndc itec gdc gdSc gdUc
theorem callM {C : Ctx} {f : Nat} {g : List Value → St → Option (Value × St)} {a x c : List Value} {s : St} (h : Sim.lookC C f = some (.st g)) : callV C (.func (.func f) ⟨a⟩ ⟨c⟩) x s = g (a ++ x ++ c) s := by
  simp only [callV, h]
def cpM (b : Nat) : Value := .pointer (some ⟨b, 0, some 0⟩)
structure LcAt (b : Nat) (s0 s : St) (fs : List Fd) : Prop where
  fr : Fresh s
  mo : More s0 s
  le : s0.n ≤ b
  at_ : ∃ lv, s.get b = some (.row 1 [[lv]] false) ∧ Ful s0.n s 14 lv (fs.map Fd.cs)
theorem Ful.putK {n0 b : Nat} {s : St} {x y : List (List Value)} {v : Value} {rows : List (List Value)} (h : Ful n0 s 14 v rows) (hb : s.get b = some (.row 1 x false)) : Ful n0 (s.put b (.row 1 y false)) 14 v rows := by
  rcases h with h | ⟨c, e, g0, g1, g2, g3⟩
  · exact .inl h
  · refine .inr ⟨c, e, g0, g1, ?_, g3⟩
    rw [get_put_ne]
    · exact g2
    · rintro rfl
      rw [hb] at g2
      injection g2 with g2
      injection g2 with g2
      omega
theorem put_v {b : Nat} {s0 s : St} {fs : List Fd} (g : Fd) (h : LcAt b s0 s fs) (hl : fs.length ≤ 50) : ∃ s', msg_answer_fn1.v g.v (cpM b) s = some (.tuple ⟨[]⟩, s') ∧ LcAt b s0 s' (fs ++ [g]) ∧ ∀ c sz rows ro, sz ≠ 14 → sz ≠ 1 → s.get c = some (.row sz rows ro) → s'.get c = some (.row sz rows ro) := by
  obtain ⟨lv, g1, g2⟩ := h.at_
  obtain ⟨v', s1, p1, p2, p3, p4, p5⟩ := push h.fr g2 h.mo (by_ := 128) g.cs (by simp; omega) (by simp; omega)
  have gb : s1.get b = some (.row 1 [[lv]] false) := p5.row g1 (by simp)
  have hbx := p3.isR.bx
  have d1 : ldc s (cpM b) = some lv := by rw [cpM, ldc_row g1]; rfl
  have w1 : stv s1 1 (cpM b) v' = some (s1.put b (.row 1 [[v']] false)) := by rw [cpM, stv_row gb, hbx]; rfl
  have b14 : bx g.v = some g.cs := rfl
  have l14 : lal g.cs 0 14 = some g.v := rfl
  refine ⟨s1.put b (.row 1 [[v']] false), ?_, ⟨p4.put, p2.put h.le, h.le, v', get_put_same gb, ?_⟩, fun c sz rows ro h14 h1 hc => ?_⟩
  · unfold msg_answer_fn1.v msg_answer_fn1.t
    simp only [std_bd, b14, d1, l14, bls_1, p1, w1, bds]
  · rw [List.map_append]
    exact Ful.putK p3 gb
  · rw [get_put_ne]
    · exact p5.row hc (by simpa using h14)
    · rintro rfl
      rw [g1] at hc
      injection hc with hc
      injection hc with hc
      omega
theorem call_put (b : Nat) (g : Fd) (s : St) : callV msg_answer.ctx (.func (.func 60) ⟨[]⟩ ⟨[cpM b]⟩) [g.v] s = msg_answer_fn1.v g.v (cpM b) s := by
  rw [callM (g := msg_answer_fn1.w) rfl]
  rfl
theorem eT (t : Bool) : bld [(.int .i64 0), (.int .u64 0), (.int .i64 0), (.bool false), (.slice none 0 0), (.int .i64 0), (.int .u64 0), (.int .i64 0), (.int .u64 0), (.int .i64 0), (.int .i64 0), (.int .u64 0), (.int .i64 0), (.int .u64 0)] [(0, 1, .int .i64 3), (3, 1, .bool t)] = some (mT t).v := rfl
theorem eR (r : Rf) : bld [(.int .i64 0), (.int .u64 0), (.int .i64 0), (.bool false), (.slice none 0 0), (.int .i64 0), (.int .u64 0), (.int .i64 0), (.int .u64 0), (.int .i64 0), (.int .i64 0), (.int .u64 0), (.int .i64 0), (.int .u64 0)] [(0, 1, .int .i64 7), (9, 5, .agg ⟨r.cs⟩)] = some (mR r).v := rfl
theorem eN (n : Int) : bld [(.int .i64 0), (.int .u64 0), (.int .i64 0), (.bool false), (.slice none 0 0), (.int .i64 0), (.int .u64 0), (.int .i64 0), (.int .u64 0), (.int .i64 0), (.int .i64 0), (.int .u64 0), (.int .i64 0), (.int .u64 0)] [(0, 1, .int .i64 1), (1, 1, .int .u64 n)] = some (mN n).v := rfl
theorem eI (n : Int) : bld [(.int .i64 0), (.int .u64 0), (.int .i64 0), (.bool false), (.slice none 0 0), (.int .i64 0), (.int .u64 0), (.int .i64 0), (.int .u64 0), (.int .i64 0), (.int .i64 0), (.int .u64 0), (.int .i64 0), (.int .u64 0)] [(0, 1, .int .i64 2), (2, 1, .int .i64 n)] = some (mI n).v := rfl
theorem side_step {b c j : Nat} {s0 s : St} {fs : List Fd} {l r : Rf} {z : List Value} (h : LcAt b s0 s fs) (hl : fs.length ≤ 40) (hc : s.get c = some (.row 5 [l.cs, r.cs] false)) (hj : j < 2) :
    ∃ s', LcAt b s0 s' (fs ++ sideF (if j = 0 then l else r)) ∧ s'.get c = some (.row 5 [l.cs, r.cs] false) ∧ ∀ e, iter (msg_answer.l7 std) (e + 1) [cpM b, .func (.func 60) ⟨[]⟩ ⟨[cpM b]⟩, .slice (some ⟨c, 0, some 0⟩) 2 4, .int .i64 2, .int .i64 (j : Int), .agg ⟨z⟩] s
      = iter (msg_answer.l7 std) e [cpM b, .func (.func 60) ⟨[]⟩ ⟨[cpM b]⟩, .slice (some ⟨c, 0, some 0⟩) 2 4, .int .i64 2, .int .i64 ((j + 1 : Nat) : Int), .agg ⟨z⟩] s' := by
  have i1 : idx s 5 (.slice (some ⟨c, 0, some 0⟩) 2 4) (.int .i64 (j : Int)) = some (.pointer (some ⟨c, j, some 0⟩)) := by
    have := idx_row (k := .i64) (i := 0) (n := (j : Int)) (len := 2) (e := 4) hc (by omega) (by omega)
    rwa [Int.toNat_natCast, Nat.zero_add] at this
  have i2 : lda s 5 (.pointer (some ⟨c, j, some 0⟩)) = some (.agg ⟨(if j = 0 then l else r).cs⟩) := by
    rw [lda_row hc]
    rcases (show j = 0 ∨ j = 1 by omega) with rfl | rfl <;> rfl
  generalize (if j = 0 then l else r) = q at *
  have e1 : eqb [1, 1, 1, 1, 1] true true (.agg ⟨q.cs⟩) (.agg ⟨zR.cs⟩) = (eqb [1, 1, 1, 1, 1] true false (.agg ⟨q.cs⟩) (.agg ⟨zR.cs⟩)).bind fun v => match v with
      | .bool b => some (.bool (!b))
      | _ => none := by
    rw [neb_agg, eqb_agg]
    cases eqks [1, 1, 1, 1, 1] q.cs zR.cs <;> rfl
  rw [eqR] at e1
  have lt0 : bin .lss (.int .i64 (j : Int)) (.int .i64 2) = some (.bool true) := by rw [bin_lss, decide_eq_true (by omega)]
  have add0 : bin .add (.int .i64 (j : Int)) (.int .i64 1) = some (.int .i64 ((j + 1 : Nat) : Int)) := by
    rw [bin_add, wrap64 (by omega) (by omega)]; rfl
  have z5b : bx (.agg #[.int .i64 0, .int .i64 0, .int .u64 0, .int .i64 0, .int .u64 0]) = some zR.cs := rfl
  have z5 : bld [.int .i64 0, .int .i64 0, .int .u64 0, .int .i64 0, .int .u64 0] [] = some (.agg ⟨zR.cs⟩) := rfl
  have s5 : stl zR.cs 0 5 (.agg ⟨q.cs⟩) = some q.cs := rfl
  have l5 : lal q.cs 0 5 = some (.agg ⟨q.cs⟩) := rfl
  unfold sideF
  by_cases hq : q = zR
  · rw [if_pos hq]
    rw [@decide_eq_true _ (Classical.propDecidable _) hq] at e1
    have e1 : eqb [1, 1, 1, 1, 1] true true (.agg ⟨q.cs⟩) (.agg ⟨zR.cs⟩) = some (.bool false) := e1
    obtain ⟨s1, p1, p2, p3⟩ := put_v (mT false) h (by omega)
    refine ⟨s1, p2, p3 c 5 _ _ (by omega) (by omega) hc, fun e => ?_⟩
    rw [iter_succ]
    generalize iter (msg_answer.l7 std) e = R
    unfold msg_answer.l7 msg_answer.l7.p1
    simp only [std_bd, std_cnd, List.getD_cons_zero, List.getD_cons_succ, lt0, cndt, i1, i2, z5b, s5, l5, z5, e1, eT, call_put, p1, cndf, add0, cellsA, bds]
  · rw [if_neg hq]
    rw [@decide_eq_false _ (Classical.propDecidable _) hq] at e1
    have e1 : eqb [1, 1, 1, 1, 1] true true (.agg ⟨q.cs⟩) (.agg ⟨zR.cs⟩) = some (.bool true) := e1
    obtain ⟨s1, p1, p2, p3⟩ := put_v (mT true) h (by omega)
    obtain ⟨s2, q1, q2, q3⟩ := put_v (mR q) p2 (by simp; omega)
    refine ⟨s2, by simpa using q2, q3 c 5 _ _ (by omega) (by omega) (p3 c 5 _ _ (by omega) (by omega) hc), fun e => ?_⟩
    rw [iter_succ]
    generalize iter (msg_answer.l7 std) e = R
    unfold msg_answer.l7 msg_answer.l7.p1
    simp only [std_bd, std_cnd, List.getD_cons_zero, List.getD_cons_succ, lt0, cndt, i1, i2, z5b, s5, l5, z5, e1, eT, eR, call_put, p1, q1, add0, cellsA, bds]
theorem ansF_v {s : St} (a : Ans) (hbx : bx a.v = some [a.v]) (hk : 0 ≤ a.k ∧ a.k < 18446744073709551616) (f : Fresh s) : FsIs s (msg_answer.v (.agg ⟨a.cs⟩) s) (ansF a) := by
  have b13 : bx (.agg ⟨a.cs⟩) = some a.cs := rfl
  have k0 : lcl a.cs 0 = some (.int .i64 a.k) := rfl
  have k1 : lcl a.cs 1 = some (.bool a.f) := rfl
  have k12 : lcl a.cs 12 = some a.v := rfl
  have kl : lal a.cs 2 5 = some (.agg ⟨a.l.cs⟩) := rfl
  have kr' : lal a.cs 7 5 = some (.agg ⟨a.r.cs⟩) := rfl
  have cv : cvi .u64 (.int .i64 a.k) = some (.int .u64 a.k) := by rw [cvi_int, wrapu64 hk.1 (by omega)]
  have eB : bld [(.int .i64 0), (.int .u64 0), (.int .i64 0), (.bool false), (.slice none 0 0), (.int .i64 0), (.int .u64 0), (.int .i64 0), (.int .u64 0), (.int .i64 0), (.int .i64 0), (.int .u64 0), (.int .i64 0), (.int .u64 0)] [(0, 1, .int .i64 4), (4, 1, a.v)] = some (mB a.v).v := by
    simp only [sy, reduceIte, Nat.reduceAdd, Nat.reduceLeDiff, Nat.reduceLT, Nat.reduceEqDiff, Int.reduceEq, Int.reduceLT, Int.reduceLE, Int.reduceNe, ly, hbx, mB, Fd.v, Fd.cs]
  obtain ⟨m1, m2, m3⟩ := fls_new [mN a.k] f
  have m2 : Ful s.n (s.new (.row 14 [(mN a.k).cs] false)) 14 (.slice (some ⟨s.n, 0, some 0⟩) 1 2) (([mN a.k] : List Fd).map Fd.cs) := m2
  have m1 : More s (s.new (.row 14 [(mN a.k).cs] false)) := m1
  have m3 : Fresh (s.new (.row 14 [(mN a.k).cs] false)) := m3
  have n1 : (s.new (.row 14 [(mN a.k).cs] false)).n = s.n + 1 := rfl
  have st1 := bls_1 (mN a.k) s
  generalize s.new (.row 14 [(mN a.k).cs] false) = s1 at *
  have A2 : alv s1 (.slice none 0 0) = some (cpM s1.n, s1.new (.row 1 [[nilB]] false)) := rfl
  have g2 : (s1.new (.row 1 [[nilB]] false)).get s1.n = some (.row 1 [[nilB]] false) := get_new_same
  have m4 : More s1 (s1.new (.row 1 [[nilB]] false)) := .new
  generalize s1.new (.row 1 [[nilB]] false) = s2 at *
  have w2 : stv s2 1 (cpM s1.n) (.slice (some ⟨s.n, 0, some 0⟩) 1 2) = some (s2.put s1.n (.row 1 [[.slice (some ⟨s.n, 0, some 0⟩) 1 2]] false)) := by rw [cpM, stv_row g2]; rfl
  have h3 : LcAt s1.n s (s2.put s1.n (.row 1 [[.slice (some ⟨s.n, 0, some 0⟩) 1 2]] false)) [mN a.k] :=
    ⟨(m4.fresh m3).put, (m1.trans m4).put (by omega), by omega, _, get_put_same g2, Ful.putK (m2.more m4 m3) g2⟩
  generalize s2.put s1.n (.row 1 [[.slice (some ⟨s.n, 0, some 0⟩) 1 2]] false) = s3 at *
  obtain ⟨lv3, g3, u3⟩ := h3.at_
  have d3 : ldc s3 (cpM s1.n) = some lv3 := by rw [cpM, ldc_row g3]; rfl
  have sl := sideF_len a.l
  have sr := sideF_len a.r
  have body : ∃ s4 s5 s8, msg_answer_fn1.v (mT a.f).v (cpM s1.n) s3 = some (.tuple ⟨[]⟩, s4) ∧ ((bls 5 (List.replicate 2 [(.int .i64 0), (.int .i64 0), (.int .u64 0), (.int .i64 0), (.int .u64 0)]) [(0, .agg ⟨a.l.cs⟩), (1, .agg ⟨a.r.cs⟩)]).bind fun rows => als s4 5 2 rows) = some (.slice (some ⟨s4.n, 0, some 0⟩) 2 4, s5) ∧
      iter (msg_answer.l7 std) BIG [cpM s1.n, .func (.func 60) ⟨[]⟩ ⟨[cpM s1.n]⟩, .slice (some ⟨s4.n, 0, some 0⟩) 2 4, .int .i64 2, .int .i64 0, .agg ⟨a.cs⟩] s5 = some (0, [cpM s1.n, .func (.func 60) ⟨[]⟩ ⟨[cpM s1.n]⟩, .agg ⟨a.cs⟩], s8) ∧ LcAt s1.n s s8 (mN a.k :: mT a.f :: (sideF a.l ++ sideF a.r)) := by
    obtain ⟨s4, p1, p2, p3⟩ := put_v (mT a.f) h3 (by simp)
    have m5 : More s4 (s4.new (.row 5 [a.l.cs, a.r.cs] false)) := .new
    have g5 : (s4.new (.row 5 [a.l.cs, a.r.cs] false)).get s4.n = some (.row 5 [a.l.cs, a.r.cs] false) := get_new_same
    have st5 : ((bls 5 (List.replicate 2 [(.int .i64 0), (.int .i64 0), (.int .u64 0), (.int .i64 0), (.int .u64 0)]) [(0, .agg ⟨a.l.cs⟩), (1, .agg ⟨a.r.cs⟩)]).bind fun rows => als s4 5 2 rows) = some (.slice (some ⟨s4.n, 0, some 0⟩) 2 4, s4.new (.row 5 [a.l.cs, a.r.cs] false)) := rfl
    have h5 : LcAt s1.n s (s4.new (.row 5 [a.l.cs, a.r.cs] false)) ([mN a.k] ++ [mT a.f]) := by
      obtain ⟨lv, x1, x2⟩ := p2.at_
      exact ⟨m5.fresh p2.fr, p2.mo.trans m5, p2.le, lv, m5.get p2.fr x1, x2.more m5 p2.fr⟩
    generalize s4.new (.row 5 [a.l.cs, a.r.cs] false) = s5 at *
    obtain ⟨s6, q1, q2, q3⟩ := side_step (j := 0) (z := a.cs) h5 (by simp) g5 (by omega)
    obtain ⟨s7, r1, r2, r3⟩ := side_step (j := 1) (z := a.cs) q1 (by simp; omega) q2 (by omega)
    refine ⟨s4, s5, s7, p1, st5, ?_, by simpa using r1⟩
    have q3 := q3 (BIG - 1)
    have r3 := r3 (BIG - 2)
    rw [show BIG - 1 + 1 = BIG from rfl] at q3
    rw [show BIG - 2 + 1 = BIG - 1 from rfl] at r3
    refine Eq.trans q3 (Eq.trans r3 ?_)
    have lt1 : bin .lss (.int .i64 ((1 + 1 : Nat) : Int)) (.int .i64 2) = some (.bool false) := rfl
    rw [show BIG - 2 = (BIG - 3) + 1 from rfl, iter_succ]
    unfold msg_answer.l7
    simp only [std_bd, std_cnd, List.getD_cons_zero, List.getD_cons_succ, lt1, cndf, cellsA, bds]
  have l2 : lenL (.slice (some ⟨0, 0, some 0⟩) 2 4) = some (.int .i64 2) := rfl
  by_cases h1 : a.k = 1
  · obtain ⟨s4, s5, s8, p1, p2, p3, p4⟩ := body
    obtain ⟨s9, q1, q2, q3⟩ := put_v (mB a.v) p4 (by simp; omega)
    obtain ⟨lv, x1, x2⟩ := q2.at_
    have d9 : ldc s9 (cpM s1.n) = some lv := by rw [cpM, ldc_row x1]; rfl
    refine ⟨lv, s9, ?_, q2.mo, by unfold ansF; rw [if_pos (.inl h1), if_pos h1]; simpa using x2, q2.fr⟩
    have e1 : eqb [1] false true (.int .i64 a.k) (.int .i64 1) = some (.bool false) := by rw [neb1, decide_eq_false (fun e => e h1)]
    have e1' : eqb [1] false false (.int .i64 a.k) (.int .i64 1) = some (.bool true) := by rw [eqb1, decide_eq_true h1]
    have ll : lenL (.slice (some ⟨s4.n, 0, some 0⟩) 2 4) = some (.int .i64 2) := rfl
    unfold msg_answer.v msg_answer.t msg_answer.t.p1
    simp only [std_bd, std_cnd, std_gd, std_it, b13, k0, cv, eN, st1, A2, w2, e1, gdft, pikf, cndf, k1, eT, call_put, p1, kl, kr', p2, ll, p3, List.getD_cons_zero, List.getD_cons_succ, cellsA, e1', cndt, k12, eB, q1, d9, bds]
  · by_cases h3' : a.k = 3
    · obtain ⟨s4, s5, s8, p1, p2, p3, p4⟩ := body
      obtain ⟨lv, x1, x2⟩ := p4.at_
      have d9 : ldc s8 (cpM s1.n) = some lv := by rw [cpM, ldc_row x1]; rfl
      refine ⟨lv, s8, ?_, p4.mo, by unfold ansF; rw [if_pos (.inr h3'), if_neg h1]; simpa using x2, p4.fr⟩
      have e1 : eqb [1] false true (.int .i64 a.k) (.int .i64 1) = some (.bool true) := by rw [neb1, decide_eq_true h1]
      have e3 : eqb [1] false true (.int .i64 a.k) (.int .i64 3) = some (.bool false) := by rw [neb1, decide_eq_false (fun e => e h3')]
      have e1' : eqb [1] false false (.int .i64 a.k) (.int .i64 1) = some (.bool false) := by rw [eqb1, decide_eq_false h1]
      have ll : lenL (.slice (some ⟨s4.n, 0, some 0⟩) 2 4) = some (.int .i64 2) := rfl
      unfold msg_answer.v msg_answer.t msg_answer.t.p1
      simp only [std_bd, std_cnd, std_gd, std_it, b13, k0, cv, eN, st1, A2, w2, e1, e3, gdtt, pikt, cndf, k1, eT, call_put, p1, kl, kr', p2, ll, p3, List.getD_cons_zero, List.getD_cons_succ, cellsA, e1', d9, bds]
    · refine ⟨lv3, s3, ?_, h3.mo, by unfold ansF; rw [if_neg (fun e => e.elim h1 h3'), if_neg h1]; exact u3, h3.fr⟩
      have e1 : eqb [1] false true (.int .i64 a.k) (.int .i64 1) = some (.bool true) := by rw [neb1, decide_eq_true h1]
      have e3 : eqb [1] false true (.int .i64 a.k) (.int .i64 3) = some (.bool true) := by rw [neb1, decide_eq_true h3']
      unfold msg_answer.v msg_answer.t
      simp only [std_bd, std_cnd, std_gd, std_it, b13, k0, cv, eN, st1, A2, w2, e1, e3, gdtt, pikt, cndt, d3, bds]
end Go.Proofs.Yteapmnolmfickaa
