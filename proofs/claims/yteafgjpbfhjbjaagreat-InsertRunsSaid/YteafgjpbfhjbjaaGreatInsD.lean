/-
  The reference's machine of package insert.
-/
import Derived.Test.YteafgjpbfhjbjaaGreatInsC
set_option linter.unusedSimpArgs false
set_option linter.unusedVariables false
set_option maxRecDepth 100000
set_option maxHeartbeats 2000000
namespace Go.Proofs.YteafgjpbfhjbjaaGreat
open Go.Sim Go.Sim.Bt
attribute [local congr] bdc cndc itec gdc gdSc gdUc
abbrev jrow (c : IC) (at' lv n : Int) (sp pp : Value) (on : Rf) (r : Res) : List Value :=
  [.int .i64 c.h, .int .i64 c.me.id, .int .i64 c.me.rk, .int .u64 c.me.n, .int .i64 c.me.ln, .int .u64 c.me.bt, .int .i64 c.st.id, .int .i64 c.st.rk, .int .u64 c.st.n, .int .i64 c.st.ln, .int .u64 c.st.bt, .int .i64 c.oa, .int .i64 c.oo,
   .int .i64 at', .int .i64 lv, .int .i64 n, sp, pp, .int .i64 on.id, .int .i64 on.rk, .int .u64 on.n, .int .i64 on.ln, .int .u64 on.bt,
   .int .i64 r.e, .int .u64 r.key, .slice none 0 0, .slice none 0 0, .int .i64 r.l.id, .int .i64 r.l.rk, .int .u64 r.l.n, .int .i64 r.l.ln, .int .u64 r.l.bt, .int .i64 r.r.id, .int .i64 r.r.rk, .int .u64 r.r.n, .int .i64 r.r.ln, .int .u64 r.r.bt, .bool r.found]
abbrev JRow (s : St) (p : Nat) (cs : List Value) : Prop := s.get p = some (.row 38 [cs] false)
abbrev JPut (s : St) (p : Nat) (cs : List Value) : St := s.put p (.row 38 [cs] false)
theorem put_j {s : St} {p : Nat} {X Y : List Value} (h : JRow s p X) : JRow (JPut s p Y) p Y := get_put_same h
theorem stp_j {s : St} {p : Nat} {X Y : List Value} (h : JRow s p X) : StpK [38] s (JPut s p Y) := .put h (by simp [kd])
def AtJ (c : IC) (s : St) (p d N : Nat) : IS → Prop
  | .seek cf ms n => ∃ pp on r wv ws, JRow s p (jrow c 1 0 n (P d) pp on r) ∧ AtR cf ms E0 s d wv ws ∧ ws.length ≤ N
  | .splice lv cf mp n => ∃ sp on r V mr, JRow s p (jrow c 2 lv n sp (P V) on r) ∧ Sp.RRow s V (Sp.rrow cf mr) ∧ Sp.RelM mp mr
  | .walk lv on n => ∃ sp pp r, JRow s p (jrow c 3 lv n sp pp on r)
  | .join => ∃ lv n sp pp on r, JRow s p (jrow c 4 lv n sp pp on r)
  | .over e => ∃ lv n sp pp on, JRow s p (jrow c 5 lv n sp pp on ⟨e, 0, zR, zR, false⟩)
abbrev KJ : List Nat := [38, 39, 13, 48]
theorem over_j {s : St} {p d N : Nat} {c : IC} {at' lv n : Int} {sp pp : Value} {on : Rf} {r : Res} (h : JRow s p (jrow c at' lv n sp pp on r)) (e : Int) :
    ∃ s', r15Insert_over.v (P p) (.int .i64 e) s = some (unit', s') ∧ AtJ c s' p d N (.over e) ∧ StpK [38] s s' ∧ JRow s' p (jrow c 5 lv n sp pp on ⟨e, 0, zR, zR, false⟩) := by
  obtain ⟨s1, hs1⟩ : ∃ s1, s1 = JPut s p (jrow c 5 lv n sp pp on r) := ⟨_, rfl⟩
  have e1 : stv s 1 (.pointer (some ⟨p, 0, some 13⟩)) (.int .i64 5) = some s1 := by rw [hs1]; simp only [stv_row h, sy, reduceIte, Nat.reduceAdd, Nat.reduceLeDiff, Nat.reduceLT, Nat.reduceEqDiff, Int.reduceEq, Int.reduceLT, Int.reduceLE, Int.reduceNe, ly]
  have r1 : JRow s1 p (jrow c 5 lv n sp pp on r) := by rw [hs1]; exact put_j h
  have e2 : stv s1 15 (.pointer (some ⟨p, 0, some 23⟩)) (.agg ⟨(⟨e, 0, zR, zR, false⟩ : Res).cs⟩) = some (JPut s1 p (jrow c 5 lv n sp pp on ⟨e, 0, zR, zR, false⟩)) := by
    simp only [stv_row r1, sy, reduceIte, Nat.reduceAdd, Nat.reduceLeDiff, Nat.reduceLT, Nat.reduceEqDiff, Int.reduceEq, Int.reduceLT, Int.reduceLE, Int.reduceNe, ly]
  have k1 : StpK [38] s s1 := by rw [hs1]; exact stp_j h
  exact ⟨_, by simp only [r15Insert_over.v, r15Insert_over.t, sy, reduceIte, Nat.reduceAdd, Nat.reduceLeDiff, Nat.reduceLT, Nat.reduceEqDiff, Int.reduceEq, Int.reduceLT, Int.reduceLE, Int.reduceNe, ly, e1, e2], ⟨lv, n, sp, pp, on, put_j r1⟩, k1.trans (stp_j r1), put_j r1⟩
theorem list_j {s : St} {p : Nat} {c : IC} {at' l0 n : Int} {sp pp : Value} {on : Rf} {r : Res} (h : JRow s p (jrow c at' l0 n sp pp on r)) (hC : okI c) {lv : Nat} (hl : (lv : Int) ≤ c.h) : r15Insert_list.r (P p) (.int .i64 (lv : Int)) s = some (.agg ⟨[.int .i64 (lv : Int), .int .u64 (bitsI c lv)]⟩) := by
  obtain ⟨m, d, e1, e2, g1, g2⟩ := hC.2.2.1
  have hln := hC.2.2.2.1
  have pf := rPrefix_ok s g1 g2 (i := lv) (by omega)
  have hcu : bitsI c lv = ((d / 2 ^ (m - lv) : Nat) : Int) := by unfold bitsI; rw [e1, e2]; rfl
  have pf : r01PrefixQ.r (.agg ⟨[.int .i64 c.me.ln, .int .u64 c.me.bt]⟩) (.int .i64 (lv : Int)) s = some (T2 (.agg ⟨[.int .i64 (lv : Int), .int .u64 (bitsI c lv)]⟩) 0) := by
    rw [hcu, e1, e2]; exact pf
  simp only [r15Insert_list.r, r15Insert_list.t, sy, reduceIte, Nat.reduceAdd, Nat.reduceLeDiff, Nat.reduceLT, Nat.reduceEqDiff, Int.reduceEq, Int.reduceLT, Int.reduceLE, Int.reduceNe, ly, lda_row h, pf]
theorem rel_m0 (c : Sp.Cf) : Sp.RelM (Sp.m0 c) ⟨1, 0, c.fr, zR, false, zR, false, zRes⟩ := ⟨rfl, rfl, by simp [Sp.m0], fun _ => ⟨rfl, fun q e => (by simp [Sp.m0] at e), fun _ => rfl⟩, fun e => (by simp [Sp.m0] at e), fun e => (by simp [Sp.m0] at e), fun e => (by simp [Sp.m0] at e)⟩
theorem splice_j {s : St} {p d N : Nat} {c : IC} {at' : Int} {lv : Nat} {n : Int} {sp pp : Value} {on : Rf} {r : Res} (f : Fresh s) (hC : okI c) (hl : (lv : Int) ≤ c.h) (h : JRow s p (jrow c at' lv n sp pp on r)) {fr : Rf} (h1 : okK fr.rk fr.n) (h2 : lessK fr.rk fr.n c.me.rk c.me.n) :
    ∃ s', r15Insert_splice.v (P p) (.agg ⟨fr.cs⟩) s = some (unit', s') ∧ AtJ c s' p d N (spliceI c lv fr n) ∧ StpK [38] s s' := by
  have ls := list_j h hC hl
  have sm := same5 c.me
  have so := same2o c.oa c.oo
  have q1 := Sp.rnew_yes (c := cfS c lv fr) f (me_nn hC) (bits_nn c lv) (ok_cf hC hl h1 h2)
  have m2 : More s (s.new (.row 48 [Sp.rrow (cfS c lv fr) ⟨1, 0, fr, zR, false, zR, false, zRes⟩] false)) := .new
  have u2 : Sp.RRow (s.new (.row 48 [Sp.rrow (cfS c lv fr) ⟨1, 0, fr, zR, false, zR, false, zRes⟩] false)) s.n (Sp.rrow (cfS c lv fr) ⟨1, 0, fr, zR, false, zR, false, zRes⟩) := get_new_same
  have q1 : r13New.v (.agg ⟨(cfS c lv fr).cs⟩) s = some (T2 (P s.n) 0, s.new (.row 48 [Sp.rrow (cfS c lv fr) ⟨1, 0, fr, zR, false, zR, false, zRes⟩] false)) := q1
  generalize s.new (.row 48 [Sp.rrow (cfS c lv fr) ⟨1, 0, fr, zR, false, zR, false, zRes⟩] false) = s2 at *
  have r2 : JRow s2 p (jrow c at' lv n sp pp on r) := m2.get f h
  obtain ⟨s3, hs3⟩ : ∃ s3, s3 = JPut s2 p (jrow c at' lv n sp (P s.n) on r) := ⟨_, rfl⟩
  have e3 : stv s2 1 (.pointer (some ⟨p, 0, some 17⟩)) (P s.n) = some s3 := by rw [hs3]; simp only [stv_row r2, sy, reduceIte, Nat.reduceAdd, Nat.reduceLeDiff, Nat.reduceLT, Nat.reduceEqDiff, Int.reduceEq, Int.reduceLT, Int.reduceLE, Int.reduceNe, ly]
  have r3 : JRow s3 p (jrow c at' lv n sp (P s.n) on r) := by rw [hs3]; exact put_j r2
  have e4 : stv s3 1 (.pointer (some ⟨p, 0, some 13⟩)) (.int .i64 2) = some (JPut s3 p (jrow c 2 lv n sp (P s.n) on r)) := by simp only [stv_row r3, sy, reduceIte, Nat.reduceAdd, Nat.reduceLeDiff, Nat.reduceLT, Nat.reduceEqDiff, Int.reduceEq, Int.reduceLT, Int.reduceLE, Int.reduceNe, ly]
  have k3 : StpK [38] s2 s3 := by rw [hs3]; exact stp_j r2
  have k4 : StpK [38] s3 (JPut s3 p (jrow c 2 lv n sp (P s.n) on r)) := stp_j r3
  refine ⟨_, ?_, ⟨sp, on, r, s.n, _, put_j r3, (k3.trans k4).row u2 (by simp), rel_m0 (cfS c lv fr)⟩, ((StpK.more m2 f).trans k3).trans k4⟩
  simp only [cfS, Sp.Cf.cs] at q1
  simp only [r15Insert_splice.v, r15Insert_splice.t, sy, reduceIte, Nat.reduceAdd, Nat.reduceLeDiff, Nat.reduceLT, Nat.reduceEqDiff, Int.reduceEq, Int.reduceLT, Int.reduceLE, Int.reduceNe, ly, ldc_row h, lda_row h, ls, q1, lda_row r2, sm, so, e3, e4]
theorem up_j {s : St} {p d N : Nat} {c : IC} {at' : Int} {lv : Nat} {n : Int} {sp pp : Value} {on : Rf} {r : Res} (hC : okI c) (hl : (lv : Int) ≤ c.h) (h : JRow s p (jrow c at' lv n sp pp on r)) :
    ∃ s', r15Insert_up.v (P p) s = some (unit', s') ∧ AtJ c s' p d N (upI c lv n) ∧ StpK [38] s s' := by
  unfold upI
  have h32 : c.h ≤ 32 := hC.1.2.1
  rcases Classical.propComplete ((lv : Int) = c.h) with k1 | k1
  · rw [if_pos (of_eq_true k1)]
    have e1 : stv s 1 (.pointer (some ⟨p, 0, some 13⟩)) (.int .i64 4) = some (JPut s p (jrow c 4 lv n sp pp on r)) := by simp only [stv_row h, sy, reduceIte, Nat.reduceAdd, Nat.reduceLeDiff, Nat.reduceLT, Nat.reduceEqDiff, Int.reduceEq, Int.reduceLT, Int.reduceLE, Int.reduceNe, ly]
    exact ⟨_, by simp only [r15Insert_up.v, r15Insert_up.t, sy, reduceIte, Nat.reduceAdd, Nat.reduceLeDiff, Nat.reduceLT, Nat.reduceEqDiff, Int.reduceEq, Int.reduceLT, Int.reduceLE, Int.reduceNe, ly, ldc_row h, k1, e1], ⟨lv, n, sp, pp, on, r, put_j h⟩, stp_j h⟩
  · rw [if_neg (of_eq_false k1)]
    have ew : IntKind.i64.wrap ((lv : Int) + 1) = ((lv + 1 : Nat) : Int) := by rw [wrap64 (by omega) (by omega)]; omega
    obtain ⟨s1, hs1⟩ : ∃ s1, s1 = JPut s p (jrow c at' ((lv + 1 : Nat) : Int) n sp pp on r) := ⟨_, rfl⟩
    have e1 : stv s 1 (.pointer (some ⟨p, 0, some 14⟩)) (.int .i64 ((lv + 1 : Nat) : Int)) = some s1 := by rw [hs1]; simp only [stv_row h, sy, reduceIte, Nat.reduceAdd, Nat.reduceLeDiff, Nat.reduceLT, Nat.reduceEqDiff, Int.reduceEq, Int.reduceLT, Int.reduceLE, Int.reduceNe, ly]
    have r1 : JRow s1 p (jrow c at' ((lv + 1 : Nat) : Int) n sp pp on r) := by rw [hs1]; exact put_j h
    obtain ⟨s2, hs2⟩ : ∃ s2, s2 = JPut s1 p (jrow c 3 ((lv + 1 : Nat) : Int) n sp pp on r) := ⟨_, rfl⟩
    have e2 : stv s1 1 (.pointer (some ⟨p, 0, some 13⟩)) (.int .i64 3) = some s2 := by rw [hs2]; simp only [stv_row r1, sy, reduceIte, Nat.reduceAdd, Nat.reduceLeDiff, Nat.reduceLT, Nat.reduceEqDiff, Int.reduceEq, Int.reduceLT, Int.reduceLE, Int.reduceNe, ly]
    have r2 : JRow s2 p (jrow c 3 ((lv + 1 : Nat) : Int) n sp pp on r) := by rw [hs2]; exact put_j r1
    have e3 : stv s2 5 (.pointer (some ⟨p, 0, some 18⟩)) (.agg ⟨c.me.cs⟩) = some (JPut s2 p (jrow c 3 ((lv + 1 : Nat) : Int) n sp pp c.me r)) := by simp only [stv_row r2, sy, reduceIte, Nat.reduceAdd, Nat.reduceLeDiff, Nat.reduceLT, Nat.reduceEqDiff, Int.reduceEq, Int.reduceLT, Int.reduceLE, Int.reduceNe, ly]
    have ka : StpK [38] s s1 := by rw [hs1]; exact stp_j h
    have kb : StpK [38] s1 s2 := by rw [hs2]; exact stp_j r1
    exact ⟨_, by simp only [r15Insert_up.v, r15Insert_up.t, sy, reduceIte, Nat.reduceAdd, Nat.reduceLeDiff, Nat.reduceLT, Nat.reduceEqDiff, Int.reduceEq, Int.reduceLT, Int.reduceLE, Int.reduceNe, ly, ldc_row h, k1, ew, e1, lda_row r1, e2, e3], ⟨sp, pp, r, put_j r2⟩, (ka.trans kb).trans (stp_j r2)⟩
theorem spliced_j {s : St} {p d N : Nat} {c : IC} {at' : Int} {lv : Nat} {n : Int} {sp pp : Value} {on : Rf} {r : Res} (f : Fresh s) (hC : okI c) (hn : 0 ≤ n) (hl : (lv : Int) ≤ c.h) (h : JRow s p (jrow c at' lv n sp pp on r)) (q : Res) :
    ∃ s' d', r15Insert_spliced.v (P p) (.agg ⟨q.cs⟩) s = some (unit', s') ∧ AtJ c s' p d' N (splicedI c lv n q.e) ∧ StpK [38] s s' := by
  unfold splicedI
  obtain ⟨s1, u1, u2, u3⟩ := up_j (d := d) (N := N) hC hl h
  have hd := rhead_r c.h s
  rcases Classical.propComplete (q.e = 0) with k1 | k1
  · rw [if_pos (.inl (of_eq_true k1))]
    exact ⟨s1, d, by simp only [r15Insert_spliced.v, r15Insert_spliced.t, r15Insert_spliced.t.p1, sy, reduceIte, Nat.reduceAdd, Nat.reduceLeDiff, Nat.reduceLT, Nat.reduceEqDiff, Int.reduceEq, Int.reduceLT, Int.reduceLE, Int.reduceNe, ly, k1, u1], u2, u3⟩
  · rcases Classical.propComplete (q.e = 133) with k2 | k2
    · have k3 : (q.e = 131) = False := eq_false (by have := of_eq_true k2; omega)
      by_cases h0 : 0 < lv
      · rw [if_pos (.inr ⟨of_eq_true k2, h0⟩)]
        have h0' : (0 : Int) < (lv : Int) := by omega
        exact ⟨s1, d, by simp only [r15Insert_spliced.v, r15Insert_spliced.t, r15Insert_spliced.t.p1, sy, reduceIte, Nat.reduceAdd, Nat.reduceLeDiff, Nat.reduceLT, Nat.reduceEqDiff, Int.reduceEq, Int.reduceLT, Int.reduceLE, Int.reduceNe, ly, k1, k2, ldc_row h, h0', u1], u2, u3⟩
      · rw [if_neg (by rintro (g | ⟨_, g⟩); exact of_eq_false k1 g; exact h0 g), if_neg (of_eq_false k3)]
        have h0' : ¬ (0 : Int) < (lv : Int) := by omega
        obtain ⟨s2, en, g3, g4, _⟩ := over_j (d := d) (N := N) h q.e
        exact ⟨s2, d, by simp only [r15Insert_spliced.v, r15Insert_spliced.t, r15Insert_spliced.t.p1, sy, reduceIte, Nat.reduceAdd, Nat.reduceLeDiff, Nat.reduceLT, Nat.reduceEqDiff, Int.reduceEq, Int.reduceLT, Int.reduceLE, Int.reduceNe, ly, k1, k2, k3, ldc_row h, h0', en], g3, g4⟩
    · rw [if_neg (by rintro (g | ⟨g, _⟩); exact of_eq_false k1 g; exact of_eq_false k2 g)]
      rcases Classical.propComplete (q.e = 131) with k3 | k3
      · rw [if_pos (of_eq_true k3)]
        by_cases h0 : lv = 0
        · rw [if_pos h0]
          subst h0
          have h0' : ¬ (0 : Int) < ((0 : Nat) : Int) := by omega
          rcases Classical.propComplete (64 ≤ n) with k4 | k4
          · rw [if_pos (of_eq_true k4)]
            obtain ⟨s2, en, g3, g4, _⟩ := over_j (d := d) (N := N) h 121
            exact ⟨s2, d, by simp only [r15Insert_spliced.v, r15Insert_spliced.t, r15Insert_spliced.t.p1, sy, reduceIte, Nat.reduceAdd, Nat.reduceLeDiff, Nat.reduceLT, Nat.reduceEqDiff, Int.reduceEq, Int.reduceLT, Int.reduceLE, Int.reduceNe, ly, k1, k2, k3, k4, ldc_row h, h0', en], g3, g4⟩
          · rw [if_neg (of_eq_false k4)]
            have k4' : n < 64 := by have := of_eq_false k4; omega
            have ew : IntKind.i64.wrap (n + 1) = n + 1 := wrap64 (by omega) (by omega)
            obtain ⟨s2, hs2⟩ : ∃ s2, s2 = JPut s p (jrow c at' ((0 : Nat) : Int) (n + 1) sp pp on r) := ⟨_, rfl⟩
            have e1 : stv s 1 (.pointer (some ⟨p, 0, some 15⟩)) (.int .i64 (n + 1)) = some s2 := by rw [hs2]; simp only [stv_row h, sy, reduceIte, Nat.reduceAdd, Nat.reduceLeDiff, Nat.reduceLT, Nat.reduceEqDiff, Int.reduceEq, Int.reduceLT, Int.reduceLE, Int.reduceNe, ly]
            have r2 : JRow s2 p (jrow c at' ((0 : Nat) : Int) (n + 1) sp pp on r) := by rw [hs2]; exact put_j h
            have k2s : StpK [38] s s2 := by rw [hs2]; exact stp_j h
            have f2 := k2s.2.2 f
            have hd2 := rhead_r c.h s2
            have s2k := same2u c.me.rk c.me.n
            have s1h : sameV (.int .i64 c.h) (.int .i64 c.h) = true := same1 c.h
            rcases rnew_r s2 c.sh (Int.le_refl 0) with ⟨g, _⟩ | ⟨_, e2⟩
            · exact absurd (ok_sh hC) g
            have mo : More s2 (s2.new (.row 39 [rrow c.sh (m0 c.sh) (.slice none 0 0)] false)) := .new
            have rN : RRow (s2.new (.row 39 [rrow c.sh (m0 c.sh) (.slice none 0 0)] false)) s2.n (rrow c.sh (m0 c.sh) (.slice none 0 0)) := get_new_same
            generalize s2.new (.row 39 [rrow c.sh (m0 c.sh) (.slice none 0 0)] false) = s3 at *
            have f3 := mo.fresh f2
            have hR3 : AtR c.sh (m0 c.sh) E0 s3 s2.n (.slice none 0 0) [] := ⟨rN, .inl ⟨rfl, rfl⟩, rfl, more_E0 f3, by simp, Nat.zero_le _⟩
            have r3 : JRow s3 p (jrow c at' ((0 : Nat) : Int) (n + 1) sp pp on r) := mo.get f2 r2
            obtain ⟨s4, hs4⟩ : ∃ s4, s4 = JPut s3 p (jrow c at' ((0 : Nat) : Int) (n + 1) (P s2.n) pp on r) := ⟨_, rfl⟩
            have e3 : stv s3 1 (.pointer (some ⟨p, 0, some 16⟩)) (P s2.n) = some s4 := by rw [hs4]; simp only [stv_row r3, sy, reduceIte, Nat.reduceAdd, Nat.reduceLeDiff, Nat.reduceLT, Nat.reduceEqDiff, Int.reduceEq, Int.reduceLT, Int.reduceLE, Int.reduceNe, ly]
            have r4 : JRow s4 p (jrow c at' ((0 : Nat) : Int) (n + 1) (P s2.n) pp on r) := by rw [hs4]; exact put_j r3
            have e4 : stv s4 1 (.pointer (some ⟨p, 0, some 13⟩)) (.int .i64 1) = some (JPut s4 p (jrow c 1 ((0 : Nat) : Int) (n + 1) (P s2.n) pp on r)) := by simp only [stv_row r4, sy, reduceIte, Nat.reduceAdd, Nat.reduceLeDiff, Nat.reduceLT, Nat.reduceEqDiff, Int.reduceEq, Int.reduceLT, Int.reduceLE, Int.reduceNe, ly]
            have k4s : StpK [38] s3 s4 := by rw [hs4]; exact stp_j r3
            have k5 : StpK [38] s4 (JPut s4 p (jrow c 1 ((0 : Nat) : Int) (n + 1) (P s2.n) pp on r)) := stp_j r4
            refine ⟨_, s2.n, ?_, ⟨pp, on, r, _, [], put_j r4, hR3.stp (k4s.trans k5) (by simp) (by simp) ((k4s.trans k5).2.2 f3), Nat.zero_le _⟩, ((k2s.trans (.more mo f2)).trans k4s).trans k5⟩
            simp only [IC.sh, headR] at e2 hd2
            simp only [r15Insert_spliced.v, r15Insert_spliced.t, r15Insert_spliced.t.p1, sy, reduceIte, Nat.reduceAdd, Nat.reduceLeDiff, Nat.reduceLT, Nat.reduceEqDiff, Int.reduceEq, Int.reduceLT, Int.reduceLE, Int.reduceNe, ly, k1, k2, k3, k4, ldc_row h, h0', ew, e1, ldc_row r2, lda_row r2, hd2, e2, ldc_row r3, lda_row r3, s2k, s1h, e3, e4]
            rfl
        · rw [if_neg h0]
          have h0' : (0 : Int) < (lv : Int) := by omega
          obtain ⟨w1, w2⟩ := head_ok (c := c) hC.2.1
          obtain ⟨s2, v1, v2, v3⟩ := splice_j (d := d) (N := N) f hC hl h w1 w2
          exact ⟨s2, d, by simp only [r15Insert_spliced.v, r15Insert_spliced.t, r15Insert_spliced.t.p1, sy, reduceIte, Nat.reduceAdd, Nat.reduceLeDiff, Nat.reduceLT, Nat.reduceEqDiff, Int.reduceEq, Int.reduceLT, Int.reduceLE, Int.reduceNe, ly, k1, k2, k3, ldc_row h, h0', hd, v1], v2, v3⟩
      · rw [if_neg (of_eq_false k3)]
        obtain ⟨s2, en, g3, g4, _⟩ := over_j (d := d) (N := N) h q.e
        exact ⟨s2, d, by simp only [r15Insert_spliced.v, r15Insert_spliced.t, r15Insert_spliced.t.p1, sy, reduceIte, Nat.reduceAdd, Nat.reduceLeDiff, Nat.reduceLT, Nat.reduceEqDiff, Int.reduceEq, Int.reduceLT, Int.reduceLE, Int.reduceNe, ly, k1, k2, k3, en], g3, g4⟩
def Still : IS → Prop
  | .seek _ ms _ => ms.ov = false
  | .splice _ _ mp _ => Sp.InvM mp ∧ mp.at' ≠ 10
  | _ => True
theorem rpnext_k {cf : Sp.Cf} {mp : Sp.Mm} {mr : Sp.Rm} (hi : Sp.InvM mp) (h : mp.at' ≠ 10) (hr : Sp.RelM mp mr) {s : St} {V : Nat} (hu : Sp.RRow s V (Sp.rrow cf mr)) : ∃ k t a, r13Splice_Next.r (P V) s = some (.agg ⟨stepC k t a zRes⟩) ∧ k ≠ 3 := by
  have n1 := Sp.rnext_r hu (Sp.inv_r hr hi)
  rw [Sp.rel_next hi hr] at n1
  obtain ⟨k, t, a, g1, g2⟩ := pnext_k (c := cf) h hi
  rw [g1] at n1
  exact ⟨k, t, a, n1, g2⟩
theorem settle_id {s : St} {p d N : Nat} {c : IC} {m : IS} (h : AtJ c s p d N m) (hs : Still m) : r15Insert_settle.v (P p) s = some (unit', s) := by
  cases m with
  | seek cf ms n =>
    obtain ⟨pp, on, r, wv, ws, h1, h2, h3⟩ := h
    have n1 := rnext_r h2
    rw [show nextC ms = stepC 1 (if ms.lk = true then ms.to else ms.ap) ⟨1, ms.wl, ms.wb, zR, zR, 0, 0⟩ zRes by simp [nextC, show ms.ov = false from hs]] at n1
    generalize (if ms.lk = true then ms.to else ms.ap) = t at n1
    simp only [r15Insert_settle.v, r15Insert_settle.t, sy, reduceIte, Nat.reduceAdd, Nat.reduceLeDiff, Nat.reduceLT, Nat.reduceEqDiff, Int.reduceEq, Int.reduceLT, Int.reduceLE, Int.reduceNe, ly, ldc_row h1, n1, stepC]
  | splice lv cf mp n =>
    obtain ⟨sp, on, r, V, mr, h1, h2, h3⟩ := h
    obtain ⟨k, t, a, g1, g2⟩ := rpnext_k hs.1 hs.2 h3 h2
    simp only [r15Insert_settle.v, r15Insert_settle.t, sy, reduceIte, Nat.reduceAdd, Nat.reduceLeDiff, Nat.reduceLT, Nat.reduceEqDiff, Int.reduceEq, Int.reduceLT, Int.reduceLE, Int.reduceNe, ly, ldc_row h1, g1, stepC, g2]
  | walk lv on n =>
    obtain ⟨sp, pp, r, h1⟩ := h
    simp only [r15Insert_settle.v, r15Insert_settle.t, sy, reduceIte, Nat.reduceAdd, Nat.reduceLeDiff, Nat.reduceLT, Nat.reduceEqDiff, Int.reduceEq, Int.reduceLT, Int.reduceLE, Int.reduceNe, ly, ldc_row h1]
  | join =>
    obtain ⟨lv, n, sp, pp, on, r, h1⟩ := h
    simp only [r15Insert_settle.v, r15Insert_settle.t, sy, reduceIte, Nat.reduceAdd, Nat.reduceLeDiff, Nat.reduceLT, Nat.reduceEqDiff, Int.reduceEq, Int.reduceLT, Int.reduceLE, Int.reduceNe, ly, ldc_row h1]
  | over e =>
    obtain ⟨lv, n, sp, pp, on, h1⟩ := h
    simp only [r15Insert_settle.v, r15Insert_settle.t, sy, reduceIte, Nat.reduceAdd, Nat.reduceLeDiff, Nat.reduceLT, Nat.reduceEqDiff, Int.reduceEq, Int.reduceLT, Int.reduceLE, Int.reduceNe, ly, ldc_row h1]
theorem still_spliceI {c : IC} {lv : Nat} {fr : Rf} {n : Int} : Still (spliceI c lv fr n) := ⟨by unfold Sp.InvM Sp.m0; simp, by simp [Sp.m0]⟩
theorem settle_s {s : St} {p d N : Nat} {c : IC} {cf : Cf} {ms : Mm} {pp : Value} {on : Rf} {r : Res} {wv : Value} {ws : List Wl} {n : Int} (f : Fresh s) (hC : okI c) (h : JRow s p (jrow c 1 0 n (P d) pp on r)) (hR : AtR cf ms E0 s d wv ws) (hw : ws.length ≤ N) (hl : LowS cf ms) (htr : cf.tr = c.me.rk) (htn : cf.tn = c.me.n) :
    ∃ s', r15Insert_settle.v (P p) s = some (unit', s') ∧ AtJ c s' p d N (soughtI c n cf ms) ∧ StpK [38] s s' := by
  cases ho : ms.ov with
  | false =>
    have g : AtJ c s p d N (.seek cf ms n) := ⟨pp, on, r, wv, ws, h, hR, hw⟩
    unfold soughtI
    rw [if_neg (by rw [ho]; simp)]
    exact ⟨s, settle_id g ho, g, .refl _ _⟩
  | true =>
    have n1 := rnext_r hR
    rw [show nextC ms = stepC 3 zR zAsk ms.res by simp [nextC, ho]] at n1
    unfold soughtI
    rw [if_pos ho]
    rcases Classical.propComplete (ms.res.e = 0) with k0 | k0
    · rw [if_pos (of_eq_true k0)]
      obtain ⟨g1, g2⟩ := hl.res ho (of_eq_true k0)
      rw [htr, htn] at g2
      have e0 : stv s 1 (.pointer (some ⟨p, 0, some 14⟩)) (.int .i64 0) = some (JPut s p (jrow c 1 0 n (P d) pp on r)) := by simp only [stv_row h, sy, reduceIte, Nat.reduceAdd, Nat.reduceLeDiff, Nat.reduceLT, Nat.reduceEqDiff, Int.reduceEq, Int.reduceLT, Int.reduceLE, Int.reduceNe, ly]
      have r0 : JRow (JPut s p (jrow c 1 0 n (P d) pp on r)) p (jrow c 1 ((0 : Nat) : Int) n (P d) pp on r) := put_j h
      obtain ⟨s', v1, v2, v3⟩ := splice_j (d := d) (N := N) (lv := 0) (s := JPut s p (jrow c 1 0 n (P d) pp on r)) f.put hC (by have := hC.1.1; show ((0 : Nat) : Int) ≤ c.h; omega) r0 g1 g2
      have k0s : StpK [38] s (JPut s p (jrow c 1 0 n (P d) pp on r)) := stp_j h
      generalize JPut s p (jrow c 1 0 n (P d) pp on r) = s1 at *
      obtain ⟨sp2, on2, r2, V, mr, w1, w2, w3⟩ := id v2
      have st := still_spliceI (c := c) (lv := 0) (fr := ms.res.l) (n := n)
      obtain ⟨k, t, a, y1, y2⟩ := rpnext_k st.1 st.2 w3 w2
      have so : r15Insert_sought.v (P p) (.agg ⟨ms.res.cs⟩) s = some (unit', s') := by
        simp only [r15Insert_sought.v, r15Insert_sought.t, sy, reduceIte, Nat.reduceAdd, Nat.reduceLeDiff, Nat.reduceLT, Nat.reduceEqDiff, Int.reduceEq, Int.reduceLT, Int.reduceLE, Int.reduceNe, ly, k0, e0, v1]
      refine ⟨s', ?_, v2, k0s.trans v3⟩
      simp only [r15Insert_settle.v, r15Insert_settle.t, sy, reduceIte, Nat.reduceAdd, Nat.reduceLeDiff, Nat.reduceLT, Nat.reduceEqDiff, Int.reduceEq, Int.reduceLT, Int.reduceLE, Int.reduceNe, ly, ldc_row h, n1, stepC, so, ldc_row w1, y1, y2]
    · rw [if_neg (of_eq_false k0)]
      obtain ⟨s', en, g3, g4, w1⟩ := over_j (d := d) (N := N) h ms.res.e
      have so : r15Insert_sought.v (P p) (.agg ⟨ms.res.cs⟩) s = some (unit', s') := by
        simp only [r15Insert_sought.v, r15Insert_sought.t, sy, reduceIte, Nat.reduceAdd, Nat.reduceLeDiff, Nat.reduceLT, Nat.reduceEqDiff, Int.reduceEq, Int.reduceLT, Int.reduceLE, Int.reduceNe, ly, k0, en]
      refine ⟨s', ?_, g3, g4⟩
      simp only [r15Insert_settle.v, r15Insert_settle.t, sy, reduceIte, Nat.reduceAdd, Nat.reduceLeDiff, Nat.reduceLT, Nat.reduceEqDiff, Int.reduceEq, Int.reduceLT, Int.reduceLE, Int.reduceNe, ly, ldc_row h, n1, stepC, so, ldc_row w1]
theorem settle_p {s : St} {p d N V lv : Nat} {c : IC} {cf : Sp.Cf} {mp : Sp.Mm} {mr : Sp.Rm} {sp : Value} {on : Rf} {r : Res} {n : Int} (f : Fresh s) (hC : okI c) (hn : 0 ≤ n) (hl : (lv : Int) ≤ c.h) (h : JRow s p (jrow c 2 lv n sp (P V) on r)) (hu : Sp.RRow s V (Sp.rrow cf mr)) (hr : Sp.RelM mp mr) (hi : Sp.InvM mp) :
    ∃ s' d', r15Insert_settle.v (P p) s = some (unit', s') ∧ AtJ c s' p d' N (settleI c lv cf n mp) ∧ StpK [38] s s' := by
  unfold settleI
  rcases Classical.propComplete (mp.at' = 10) with k1 | k1
  · rw [if_pos (of_eq_true k1)]
    have n1 := Sp.rnext_r hu (Sp.inv_r hr hi)
    rw [Sp.rel_next hi hr, show Sp.nextC cf mp = stepC 3 zR zAsk mp.res by simp [Sp.nextC, of_eq_true k1]] at n1
    obtain ⟨s', d', v1, v2, v3⟩ := spliced_j (d := d) (N := N) f hC hn hl h mp.res
    exact ⟨s', d', by simp only [r15Insert_settle.v, r15Insert_settle.t, sy, reduceIte, Nat.reduceAdd, Nat.reduceLeDiff, Nat.reduceLT, Nat.reduceEqDiff, Int.reduceEq, Int.reduceLT, Int.reduceLE, Int.reduceNe, ly, ldc_row h, n1, stepC, v1], v2, v3⟩
  · rw [if_neg (of_eq_false k1)]
    have g : AtJ c s p d N (.splice lv cf mp n) := ⟨sp, on, r, V, mr, h, hu, hr⟩
    exact ⟨s, d, settle_id g ⟨hi, of_eq_false k1⟩, g, .refl _ _⟩
open Classical in
theorem walked_j {s : St} {p d N lv : Nat} {c : IC} {on : Rf} {n : Int} {sp pp : Value} {r : Res} (f : Fresh s) (hC : okI c) (hl : (lv : Int) ≤ c.h) (hon : on = c.me ∨ lessK on.rk on.n c.me.rk c.me.n) (h : JRow s p (jrow c 3 lv n sp pp on r)) (a : Ans) (hb : 0 ≤ a.l.bt) (hbx : bx a.v = some [a.v]) :
    ∃ s', r15Insert_walked.v (P p) (.agg ⟨a.cs⟩) s = some (unit', s') ∧ AtJ c s' p d N (walkedI c lv on n a) ∧ StpK [38] s s' := by
  have hd := rhead_r c.h s
  have ls := list_j h hC hl
  have kc := isKey_r a.l.rk a.l.n s
  have le := r9less_r a.l.rk a.l.n on.rk on.n s
  have bg := rbegins_i a.l.ln a.l.bt lv (bitsI c lv) hb (bits_nn c lv) s f
  have eq := eqs_f on c.me
  simp only [Rf.cs] at eq
  obtain ⟨w1, w2⟩ := head_ok (c := c) hC.2.1
  obtain ⟨s1, v1, v2, v3⟩ := splice_j (d := d) (N := N) f hC hl h w1 w2
  unfold walkedI
  rcases Classical.propComplete (a.k = 3) with k3 | k3
  · have k1 : (a.k = 1) = False := eq_false (by have := of_eq_true k3; omega)
    cases hs : sameI5 on c.me with
    | true =>
      rw [hs] at eq
      rw [if_pos ⟨of_eq_true k3, rfl⟩]
      obtain ⟨s2, en, g3, g4, _⟩ := over_j (d := d) (N := N) h 132
      exact ⟨s2, by simp only [r15Insert_walked.v, r15Insert_walked.t, r15Insert_walked.t.p1, eqb_agg, sy, reduceIte, Nat.reduceAdd, Nat.reduceLeDiff, Nat.reduceLT, Nat.reduceEqDiff, Int.reduceEq, Int.reduceLT, Int.reduceLE, Int.reduceNe, ly, hbx, k3, lda_row h, eq, en], g3, g4⟩
    | false =>
      rw [hs] at eq
      rw [if_neg (by simp), if_neg (fun g => of_eq_false k1 g.1)]
      exact ⟨s1, by simp only [r15Insert_walked.v, r15Insert_walked.t, r15Insert_walked.t.p1, eqb_agg, sy, reduceIte, Nat.reduceAdd, Nat.reduceLeDiff, Nat.reduceLT, Nat.reduceEqDiff, Int.reduceEq, Int.reduceLT, Int.reduceLE, Int.reduceNe, ly, hbx, k3, k1, ldc_row h, lda_row h, eq, hd, v1], v2, v3⟩
  · rw [if_neg (fun g => of_eq_false k3 g.1)]
    rcases Classical.propComplete (a.k = 1) with k1 | k1
    · by_cases k4 : okK a.l.rk a.l.n
      · rw [decide_eq_true k4] at kc
        by_cases k5 : lessK a.l.rk a.l.n on.rk on.n
        · rw [decide_eq_true k5] at le
          rw [if_pos ⟨of_eq_true k1, k4, k5⟩]
          have hlm : lessK a.l.rk a.l.n c.me.rk c.me.n := by
            rcases hon with rfl | hon
            · exact k5
            · exact lessK_trans k5 hon
          obtain ⟨s2, u1, u2, u3⟩ := splice_j (d := d) (N := N) f hC hl h k4 hlm
          rcases Classical.propComplete (a.l.rk = 1) with k6 | k6
          · rw [if_pos (.inl (of_eq_true k6))]
            exact ⟨s2, by simp only [r15Insert_walked.v, r15Insert_walked.t, r15Insert_walked.t.p1, sy, reduceIte, Nat.reduceAdd, Nat.reduceLeDiff, Nat.reduceLT, Nat.reduceEqDiff, Int.reduceEq, Int.reduceLT, Int.reduceLE, Int.reduceNe, ly, hbx, k3, k1, lda_row h, kc, le, k6, u1], u2, u3⟩
          · by_cases k7 : BG a.l.ln a.l.bt lv (bitsI c lv)
            · rw [decide_eq_true k7] at bg
              rw [if_pos (.inr k7)]
              exact ⟨s2, by simp only [r15Insert_walked.v, r15Insert_walked.t, r15Insert_walked.t.p1, sy, reduceIte, Nat.reduceAdd, Nat.reduceLeDiff, Nat.reduceLT, Nat.reduceEqDiff, Int.reduceEq, Int.reduceLT, Int.reduceLE, Int.reduceNe, ly, hbx, k3, k1, ldc_row h, lda_row h, kc, le, k6, ls, bg, u1], u2, u3⟩
            · rw [decide_eq_false k7] at bg
              rw [if_neg (by rintro (g | g); exact of_eq_false k6 g; exact k7 g)]
              have e1 : stv s 5 (.pointer (some ⟨p, 0, some 18⟩)) (.agg ⟨a.l.cs⟩) = some (JPut s p (jrow c 3 lv n sp pp a.l r)) := by simp only [stv_row h, sy, reduceIte, Nat.reduceAdd, Nat.reduceLeDiff, Nat.reduceLT, Nat.reduceEqDiff, Int.reduceEq, Int.reduceLT, Int.reduceLE, Int.reduceNe, ly]
              exact ⟨_, by simp only [r15Insert_walked.v, r15Insert_walked.t, r15Insert_walked.t.p1, sy, reduceIte, Nat.reduceAdd, Nat.reduceLeDiff, Nat.reduceLT, Nat.reduceEqDiff, Int.reduceEq, Int.reduceLT, Int.reduceLE, Int.reduceNe, ly, hbx, k3, k1, ldc_row h, lda_row h, kc, le, k6, ls, bg, e1], ⟨sp, pp, r, put_j h⟩, stp_j h⟩
        · rw [decide_eq_false k5] at le
          rw [if_neg (fun g => k5 g.2.2)]
          exact ⟨s1, by simp only [r15Insert_walked.v, r15Insert_walked.t, r15Insert_walked.t.p1, sy, reduceIte, Nat.reduceAdd, Nat.reduceLeDiff, Nat.reduceLT, Nat.reduceEqDiff, Int.reduceEq, Int.reduceLT, Int.reduceLE, Int.reduceNe, ly, hbx, k3, k1, ldc_row h, lda_row h, kc, le, hd, v1], v2, v3⟩
      · rw [decide_eq_false k4] at kc
        rw [if_neg (fun g => k4 g.2.1)]
        exact ⟨s1, by simp only [r15Insert_walked.v, r15Insert_walked.t, r15Insert_walked.t.p1, sy, reduceIte, Nat.reduceAdd, Nat.reduceLeDiff, Nat.reduceLT, Nat.reduceEqDiff, Int.reduceEq, Int.reduceLT, Int.reduceLE, Int.reduceNe, ly, hbx, k3, k1, ldc_row h, lda_row h, kc, hd, v1], v2, v3⟩
    · rw [if_neg (fun g => of_eq_false k1 g.1)]
      exact ⟨s1, by simp only [r15Insert_walked.v, r15Insert_walked.t, r15Insert_walked.t.p1, sy, reduceIte, Nat.reduceAdd, Nat.reduceLeDiff, Nat.reduceLT, Nat.reduceEqDiff, Int.reduceEq, Int.reduceLT, Int.reduceLE, Int.reduceNe, ly, hbx, k3, k1, ldc_row h, lda_row h, hd, v1], v2, v3⟩
theorem still_walkedI {c : IC} {lv : Nat} {on : Rf} {n : Int} {a : Ans} : Still (walkedI c lv on n a) := by
  unfold walkedI
  split
  · trivial
  · split
    · split
      · exact still_spliceI
      · trivial
    · exact still_spliceI
theorem tell_j {s : St} {p d N : Nat} {c : IC} {m : IS} (f : Fresh s) (hN : N ≤ 90000) (hC : okI c) (h : AtJ c s p d N m) (hi : InvI c N m) (a : Ans) (hb : 0 ≤ a.l.bt) (hbx : bx a.v = some [a.v]) {xo : Option Rf} (hx : HasC m a xo) :
    ∃ s' d', r15Insert_Tell.v (P p) (.agg ⟨a.cs⟩) s = some (unit', s') ∧ AtJ c s' p d' (N + 1) (tellI c a xo m) ∧ StpK KJ s s' := by
  cases m with
  | seek cf ms n =>
    obtain ⟨pp, on, r, wv, ws, h1, h2, h3⟩ := h
    obtain ⟨a1, a2, a3, a4, a5, a6, a7, a8⟩ := hi
    obtain ⟨D, hc, hD⟩ := hx cf ms n rfl
    obtain ⟨s1, wv1, ws1, e1, hR1, st1, hl1⟩ := rtell_f f (by omega) h2 a4.n0 a4.okw a hc hD
    have k1 := StpR.stp h2.row st1
    have r1 : JRow s1 p (jrow c 1 0 n (P d) pp on r) := k1.row h1 (by simp)
    obtain ⟨s2, e2, g1, g2⟩ := settle_s (N := N + 1) (k1.2.2 f) hC r1 hR1 (by omega) (low_tell a7 a (chase_ok hc)) a2 a3
    exact ⟨s2, d, by simp only [r15Insert_Tell.v, r15Insert_Tell.t, sy, reduceIte, Nat.reduceAdd, Nat.reduceLeDiff, Nat.reduceLT, Nat.reduceEqDiff, Int.reduceEq, Int.reduceLT, Int.reduceLE, Int.reduceNe, ly, hbx, ldc_row h1, e1, e2], g1, (k1.mono (by simp)).trans (g2.mono (by simp))⟩
  | splice lv cf mp n =>
    obtain ⟨sp, on, r, V, mr, h1, h2, h3⟩ := h
    obtain ⟨a1, a2, a3, a4, a5⟩ := hi
    obtain ⟨s1, e1, u1, bu⟩ := Sp.rtell_r h2 (Sp.inv_r h3 a1) a
    have k1 : StpK [48] s s1 := ⟨by rw [bu.2.1]; exact Nat.le_refl _, fun x k hx hk => by
      rw [bu.1 x (by rintro rfl; unfold Sp.RRow at h2; rw [hx] at h2; cases h2; simp [kd] at hk)]; exact hx, bu.2.2⟩
    have r1 : JRow s1 p (jrow c 2 lv n sp (P V) on r) := k1.row h1 (by simp)
    obtain ⟨s2, d', e2, g1, g2⟩ := settle_p (d := d) (N := N + 1) (k1.2.2 f) hC a4 a3 r1 u1 (Sp.rel_tell (c := cf) a1 h3 a) (Sp.inv_tell a1 a)
    exact ⟨s2, d', by simp only [r15Insert_Tell.v, r15Insert_Tell.t, sy, reduceIte, Nat.reduceAdd, Nat.reduceLeDiff, Nat.reduceLT, Nat.reduceEqDiff, Int.reduceEq, Int.reduceLT, Int.reduceLE, Int.reduceNe, ly, hbx, ldc_row h1, e1, e2], g1, (k1.mono (by simp)).trans (g2.mono (by simp))⟩
  | walk lv on n =>
    obtain ⟨sp, pp, r, h1⟩ := h
    obtain ⟨a1, a2, a3, a4⟩ := hi
    obtain ⟨s2, e2, g1, g2⟩ := walked_j (d := d) (N := N + 1) f hC a2 a3 h1 a hb hbx
    have e3 := settle_id g1 still_walkedI
    exact ⟨s2, d, by simp only [r15Insert_Tell.v, r15Insert_Tell.t, sy, reduceIte, Nat.reduceAdd, Nat.reduceLeDiff, Nat.reduceLT, Nat.reduceEqDiff, Int.reduceEq, Int.reduceLT, Int.reduceLE, Int.reduceNe, ly, hbx, ldc_row h1, e2, e3], g1, g2.mono (by simp)⟩
  | join =>
    obtain ⟨lv, n, sp, pp, on, r, h1⟩ := h
    unfold tellI
    simp only []
    rcases Classical.propComplete (a.k = 3) with k3 | k3
    · rw [if_pos (of_eq_true k3)]
      obtain ⟨s2, en, g3, g4, _⟩ := over_j (d := d) (N := N + 1) h1 132
      have e3 := settle_id g3 trivial
      exact ⟨s2, d, by simp only [r15Insert_Tell.v, r15Insert_Tell.t, sy, reduceIte, Nat.reduceAdd, Nat.reduceLeDiff, Nat.reduceLT, Nat.reduceEqDiff, Int.reduceEq, Int.reduceLT, Int.reduceLE, Int.reduceNe, ly, hbx, ldc_row h1, k3, en, e3], g3, g4.mono (by simp)⟩
    · rw [if_neg (of_eq_false k3)]
      obtain ⟨s2, en, g3, g4, _⟩ := over_j (d := d) (N := N + 1) h1 0
      have e3 := settle_id g3 trivial
      exact ⟨s2, d, by simp only [r15Insert_Tell.v, r15Insert_Tell.t, sy, reduceIte, Nat.reduceAdd, Nat.reduceLeDiff, Nat.reduceLT, Nat.reduceEqDiff, Int.reduceEq, Int.reduceLT, Int.reduceLE, Int.reduceNe, ly, hbx, ldc_row h1, k3, en, e3], g3, g4.mono (by simp)⟩
  | over e =>
    obtain ⟨lv, n, sp, pp, on, h1⟩ := h
    exact ⟨s, d, by simp only [r15Insert_Tell.v, r15Insert_Tell.t, sy, reduceIte, Nat.reduceAdd, Nat.reduceLeDiff, Nat.reduceLT, Nat.reduceEqDiff, Int.reduceEq, Int.reduceLT, Int.reduceLE, Int.reduceNe, ly, hbx, ldc_row h1], ⟨lv, n, sp, pp, on, h1⟩, .refl _ _⟩
theorem wake_j {s : St} {p d N : Nat} {c : IC} {m : IS} (f : Fresh s) (h : AtJ c s p d N m) (hi : InvI c N m) :
    ∃ s', r15Insert_Wake.v (P p) s = some (unit', s') ∧ AtJ c s' p d N (wakeI m) ∧ StpK KJ s s' := by
  cases m with
  | seek cf ms n =>
    obtain ⟨pp, on, r, wv, ws, h1, h2, h3⟩ := h
    exact ⟨s, by simp only [r15Insert_Wake.v, r15Insert_Wake.t, sy, reduceIte, Nat.reduceAdd, Nat.reduceLeDiff, Nat.reduceLT, Nat.reduceEqDiff, Int.reduceEq, Int.reduceLT, Int.reduceLE, Int.reduceNe, ly, ldc_row h1], ⟨pp, on, r, wv, ws, h1, h2, h3⟩, .refl _ _⟩
  | splice lv cf mp n =>
    obtain ⟨sp, on, r, V, mr, h1, h2, h3⟩ := h
    obtain ⟨s1, e1, u1, bu⟩ := Sp.rwake_r h2
    have k1 : StpK [48] s s1 := ⟨by rw [bu.2.1]; exact Nat.le_refl _, fun x k hx hk => by
      rw [bu.1 x (by rintro rfl; unfold Sp.RRow at h2; rw [hx] at h2; cases h2; simp [kd] at hk)]; exact hx, bu.2.2⟩
    exact ⟨s1, by simp only [r15Insert_Wake.v, r15Insert_Wake.t, sy, reduceIte, Nat.reduceAdd, Nat.reduceLeDiff, Nat.reduceLT, Nat.reduceEqDiff, Int.reduceEq, Int.reduceLT, Int.reduceLE, Int.reduceNe, ly, ldc_row h1, e1], ⟨sp, on, r, V, _, k1.row h1 (by simp), u1, Sp.rel_wake hi.1 h3⟩, k1.mono (by simp)⟩
  | walk lv on n =>
    obtain ⟨sp, pp, r, h1⟩ := h
    exact ⟨s, by simp only [r15Insert_Wake.v, r15Insert_Wake.t, sy, reduceIte, Nat.reduceAdd, Nat.reduceLeDiff, Nat.reduceLT, Nat.reduceEqDiff, Int.reduceEq, Int.reduceLT, Int.reduceLE, Int.reduceNe, ly, ldc_row h1], ⟨sp, pp, r, h1⟩, .refl _ _⟩
  | join =>
    obtain ⟨lv, n, sp, pp, on, r, h1⟩ := h
    exact ⟨s, by simp only [r15Insert_Wake.v, r15Insert_Wake.t, sy, reduceIte, Nat.reduceAdd, Nat.reduceLeDiff, Nat.reduceLT, Nat.reduceEqDiff, Int.reduceEq, Int.reduceLT, Int.reduceLE, Int.reduceNe, ly, ldc_row h1], ⟨lv, n, sp, pp, on, r, h1⟩, .refl _ _⟩
  | over e =>
    obtain ⟨lv, n, sp, pp, on, h1⟩ := h
    exact ⟨s, by simp only [r15Insert_Wake.v, r15Insert_Wake.t, sy, reduceIte, Nat.reduceAdd, Nat.reduceLeDiff, Nat.reduceLT, Nat.reduceEqDiff, Int.reduceEq, Int.reduceLT, Int.reduceLE, Int.reduceNe, ly, ldc_row h1], ⟨lv, n, sp, pp, on, h1⟩, .refl _ _⟩
theorem next_j {s : St} {p d N : Nat} {c : IC} {m : IS} (hC : okI c) (h : AtJ c s p d N m) (hi : InvI c N m) : r15Insert_Next.r (P p) s = some (.agg ⟨nextI c m⟩) := by
  cases m with
  | seek cf ms n =>
    obtain ⟨pp, on, r, wv, ws, h1, h2, h3⟩ := h
    have n2 := rnext_r h2
    obtain ⟨k, t, a, q, g⟩ : ∃ k t a r, nextC ms = stepC k t a r := by unfold nextC; split <;> exact ⟨_, _, _, _, rfl⟩
    show r15Insert_Next.r (P p) s = some (Value.agg ⟨nextC ms⟩)
    rw [g] at n2 ⊢
    simp only [r15Insert_Next.r, r15Insert_Next.t, r15Insert_Next.t.p1, r15Insert_Next.t.p2, r15Insert_Next.t.p3, sy, reduceIte, Nat.reduceAdd, Nat.reduceLeDiff, Nat.reduceLT, Nat.reduceEqDiff, Int.reduceEq, Int.reduceLT, Int.reduceLE, Int.reduceNe, ly, ldc_row h1, n2, stepC]
  | splice lv cf mp n =>
    obtain ⟨sp, on, r, V, mr, h1, h2, h3⟩ := h
    have n1 := Sp.rnext_r h2 (Sp.inv_r h3 hi.1)
    rw [Sp.rel_next hi.1 h3] at n1
    obtain ⟨k, t, a, g1, g2⟩ := pnext_k (c := cf) hi.2.1 hi.1
    show r15Insert_Next.r (P p) s = some (Value.agg ⟨Sp.nextC cf mp⟩)
    rw [g1] at n1 ⊢
    simp only [r15Insert_Next.r, r15Insert_Next.t, r15Insert_Next.t.p1, r15Insert_Next.t.p2, r15Insert_Next.t.p3, sy, reduceIte, Nat.reduceAdd, Nat.reduceLeDiff, Nat.reduceLT, Nat.reduceEqDiff, Int.reduceEq, Int.reduceLT, Int.reduceLE, Int.reduceNe, ly, ldc_row h1, n1, stepC]
  | walk lv on n =>
    obtain ⟨sp, pp, r, h1⟩ := h
    obtain ⟨a1, a2, a3, a4⟩ := hi
    have h32 : c.h ≤ 32 := hC.1.2.1
    have ew : IntKind.i64.wrap ((lv : Int) - 1) = ((lv - 1 : Nat) : Int) := by rw [wrap64 (by omega) (by omega)]; omega
    have ls := list_j h1 hC (lv := lv - 1) (by omega)
    simp only [r15Insert_Next.r, r15Insert_Next.t, r15Insert_Next.t.p1, r15Insert_Next.t.p2, r15Insert_Next.t.p3, sy, reduceIte, Nat.reduceAdd, Nat.reduceLeDiff, Nat.reduceLT, Nat.reduceEqDiff, Int.reduceEq, Int.reduceLT, Int.reduceLE, Int.reduceNe, ly, ldc_row h1, lda_row h1, ew, ls, nextI, stepC]
  | join =>
    obtain ⟨lv, n, sp, pp, on, r, h1⟩ := h
    simp only [r15Insert_Next.r, r15Insert_Next.t, r15Insert_Next.t.p1, r15Insert_Next.t.p2, r15Insert_Next.t.p3, sy, reduceIte, Nat.reduceAdd, Nat.reduceLeDiff, Nat.reduceLT, Nat.reduceEqDiff, Int.reduceEq, Int.reduceLT, Int.reduceLE, Int.reduceNe, ly, ldc_row h1, lda_row h1, nextI, stepC]
  | over e =>
    obtain ⟨lv, n, sp, pp, on, h1⟩ := h
    simp only [r15Insert_Next.r, r15Insert_Next.t, r15Insert_Next.t.p1, r15Insert_Next.t.p2, r15Insert_Next.t.p3, sy, reduceIte, Nat.reduceAdd, Nat.reduceLeDiff, Nat.reduceLT, Nat.reduceEqDiff, Int.reduceEq, Int.reduceLT, Int.reduceLE, Int.reduceNe, ly, ldc_row h1, lda_row h1, nextI, stepC]
open Classical in
theorem new_j {s : St} (f : Fresh s) (c : IC) (hb : 0 ≤ c.st.bt) (hm : 0 ≤ c.me.bt) :
    (¬ okI c ∧ ∃ s', r15New.v (.agg ⟨c.cs⟩) s = some (T2 (.pointer none) 150, s') ∧ More s s') ∨
    (okI c ∧ ∃ s' p d, r15New.v (.agg ⟨c.cs⟩) s = some (T2 (P p) 0, s') ∧ AtJ c s' p d 0 (.seek c.sk (m0 c.sk) 1) ∧ More s s') := by
  have hd := rhead_r c.h
  rcases rnew_r s c.sk hb with ⟨hC, e2⟩ | ⟨hC, e2⟩
  · exact .inl ⟨fun g => hC g.1, s, by simp only [r15New.v, r15New.t, r15New.t.p1, sy, reduceIte, Nat.reduceAdd, Nat.reduceLeDiff, Nat.reduceLT, Nat.reduceEqDiff, Int.reduceEq, Int.reduceLT, Int.reduceLE, Int.reduceNe, ly, e2], .refl _⟩
  · have mo : More s (s.new (.row 39 [rrow c.sk (m0 c.sk) (.slice none 0 0)] false)) := .new
    have rN : RRow (s.new (.row 39 [rrow c.sk (m0 c.sk) (.slice none 0 0)] false)) s.n (rrow c.sk (m0 c.sk) (.slice none 0 0)) := get_new_same
    generalize s.new (.row 39 [rrow c.sk (m0 c.sk) (.slice none 0 0)] false) = s2 at *
    have f2 := mo.fresh f
    have vr := rright_i c.me.ln c.me.bt hm s2
    have hd := hd s2
    rcases Classical.propComplete (c.me.rk = 2) with k1 | k1
    · by_cases k2 : okV c.me.ln c.me.bt
      · rw [decide_eq_true k2] at vr
        rcases Classical.propComplete (c.me.ln = c.h) with k3 | k3
        · by_cases k4 : okO c.oa c.oo
          · right
            have ok0 := c0_ok (of_eq_true k1) k2 k4
            have q1 := Sp.rnew_yes (c := ⟨0, 0, c.me, headR c.h, c.oa, c.oo⟩) f2 hm (Int.le_refl 0) ok0
            have m3 : More s2 (s2.new (.row 48 [Sp.rrow ⟨0, 0, c.me, headR c.h, c.oa, c.oo⟩ ⟨1, 0, (⟨0, 0, c.me, headR c.h, c.oa, c.oo⟩ : Sp.Cf).fr, zR, false, zR, false, zRes⟩] false)) := .new
            generalize s2.new (.row 48 [Sp.rrow ⟨0, 0, c.me, headR c.h, c.oa, c.oo⟩ ⟨1, 0, (⟨0, 0, c.me, headR c.h, c.oa, c.oo⟩ : Sp.Cf).fr, zR, false, zR, false, zRes⟩] false) = s3 at *
            have f3 := m3.fresh f2
            have m4 : More s3 (s3.new (.row 38 [jrow c 1 0 1 (P s.n) (.pointer none) zR zRes] false)) := .new
            have e4 : alv s3 (.agg ⟨jrow c 1 0 1 (P s.n) (.pointer none) zR zRes⟩) = some (P s3.n, s3.new (.row 38 [jrow c 1 0 1 (P s.n) (.pointer none) zR zRes] false)) := rfl
            have r4 : JRow (s3.new (.row 38 [jrow c 1 0 1 (P s.n) (.pointer none) zR zRes] false)) s3.n (jrow c 1 0 1 (P s.n) (.pointer none) zR zRes) := get_new_same
            generalize s3.new (.row 38 [jrow c 1 0 1 (P s.n) (.pointer none) zR zRes] false) = s4 at *
            have f4 := m4.fresh f3
            have rN4 : RRow s4 s.n (rrow c.sk (m0 c.sk) (.slice none 0 0)) := m4.get f3 (m3.get f2 rN)
            have hR : AtR c.sk (m0 c.sk) E0 s4 s.n (.slice none 0 0) [] := ⟨rN4, .inl ⟨rfl, rfl⟩, rfl, more_E0 f4, by simp, Nat.zero_le _⟩
            refine ⟨⟨hC, of_eq_true k1, k2, of_eq_true k3, k4⟩, s4, s3.n, s.n, ?_, ⟨_, _, _, _, [], r4, hR, Nat.le_refl _⟩, (mo.trans m3).trans m4⟩
            simp only [Sp.Cf.cs, headR] at q1 hd
            simp only [jrow] at e4
            simp only [r15New.v, r15New.t, r15New.t.p1, sy, reduceIte, Nat.reduceAdd, Nat.reduceLeDiff, Nat.reduceLT, Nat.reduceEqDiff, Int.reduceEq, Int.reduceLT, Int.reduceLE, Int.reduceNe, ly, e2, k1, vr, k3, hd, q1, e4]
          · left
            have q1 := (Sp.new_no (c := ⟨0, 0, c.me, headR c.h, c.oa, c.oo⟩) f2 hm (Int.le_refl 0) fun g => k4 g.2.2.2.2).2
            refine ⟨fun g => k4 g.2.2.2.2, s2, ?_, mo⟩
            simp only [Sp.Cf.cs, headR, Sp.Bad] at q1 hd
            simp only [r15New.v, r15New.t, r15New.t.p1, sy, reduceIte, Nat.reduceAdd, Nat.reduceLeDiff, Nat.reduceLT, Nat.reduceEqDiff, Int.reduceEq, Int.reduceLT, Int.reduceLE, Int.reduceNe, ly, e2, k1, vr, k3, hd, q1]
        · exact .inl ⟨fun g => of_eq_false k3 g.2.2.2.1, s2, by simp only [r15New.v, r15New.t, r15New.t.p1, sy, reduceIte, Nat.reduceAdd, Nat.reduceLeDiff, Nat.reduceLT, Nat.reduceEqDiff, Int.reduceEq, Int.reduceLT, Int.reduceLE, Int.reduceNe, ly, e2, k1, vr, k3], mo⟩
      · rw [decide_eq_false k2] at vr
        exact .inl ⟨fun g => k2 g.2.2.1, s2, by simp only [r15New.v, r15New.t, r15New.t.p1, sy, reduceIte, Nat.reduceAdd, Nat.reduceLeDiff, Nat.reduceLT, Nat.reduceEqDiff, Int.reduceEq, Int.reduceLT, Int.reduceLE, Int.reduceNe, ly, e2, k1, vr], mo⟩
    · exact .inl ⟨fun g => of_eq_false k1 g.2.1, s2, by simp only [r15New.v, r15New.t, r15New.t.p1, sy, reduceIte, Nat.reduceAdd, Nat.reduceLeDiff, Nat.reduceLT, Nat.reduceEqDiff, Int.reduceEq, Int.reduceLT, Int.reduceLE, Int.reduceNe, ly, e2, k1], mo⟩
end Go.Proofs.YteafgjpbfhjbjaaGreat
