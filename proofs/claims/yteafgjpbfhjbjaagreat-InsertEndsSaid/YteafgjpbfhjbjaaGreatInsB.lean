/-
  The machine of package insert in memory: its parts.
-/
import Derived.Test.YteafgjpbfhjbjaaGreatInsA
set_option linter.unusedSimpArgs false
set_option linter.unusedVariables false
set_option maxRecDepth 100000
set_option maxHeartbeats 2000000
namespace Go.Proofs.YteafgjpbfhjbjaaGreat
open Go.Sim Go.Sim.Bt
attribute [local congr] bdc cndc itec gdc gdSc gdUc
abbrev tS (b : Nat) : Value := .iface 103 (P b)
abbrev tP (b : Nat) : Value := .iface 109 (P b)
abbrev irow (c : IC) (at' : Int) (pl : Value) (lv : Int) (on : Rf) (n e : Int) : List Value :=
  [.int .i64 c.h, .int .i64 c.me.id, .int .i64 c.me.rk, .int .u64 c.me.n, .int .i64 c.me.ln, .int .u64 c.me.bt, .int .i64 c.st.id, .int .i64 c.st.rk, .int .u64 c.st.n, .int .i64 c.st.ln, .int .u64 c.st.bt, .int .i64 c.oa, .int .i64 c.oo,
   .int .i64 at', pl, .int .i64 lv, .int .i64 on.id, .int .i64 on.rk, .int .u64 on.n, .int .i64 on.ln, .int .u64 on.bt, .int .i64 n, .int .i64 e]
abbrev IRow (s : St) (p : Nat) (cs : List Value) : Prop := s.get p = some (.row 23 [cs] false)
abbrev IPut (s : St) (p : Nat) (cs : List Value) : St := s.put p (.row 23 [cs] false)
theorem put_i {s : St} {p : Nat} {X Y : List Value} (h : IRow s p X) : IRow (IPut s p Y) p Y := get_put_same h
theorem stp_i {s : St} {p : Nat} {X Y : List Value} (h : IRow s p X) : StpK [23] s (IPut s p Y) := .put h (by simp [kd])
def AtI (c : IC) (s : St) (p b q U : Nat) : IS → Prop
  | .seek cf ms n => ∃ on, IRow s p (irow c 1 (tS b) 0 on n 0) ∧ At cf ms s b q
  | .splice lv cf mp n => ∃ on, IRow s p (irow c 1 (tP U) lv on n 0) ∧ Sp.At cf mp s U
  | .walk lv on n => ∃ pl, IRow s p (irow c 2 pl lv on n 0)
  | .join => ∃ pl lv on n, IRow s p (irow c 3 pl lv on n 0)
  | .over e => ∃ pl lv on n, IRow s p (irow c 4 pl lv on n e)
abbrev KI : List Nat := [23, 40, 1000, 44]
theorem bx_if {t : Nat} {v : Value} : bx (.iface t v) = some [.iface t v] := id rfl
theorem end_i {s : St} {p : Nat} {c : IC} {at' : Int} {pl : Value} {lv : Int} {on : Rf} {n e0 : Int} (h : IRow s p (irow c at' pl lv on n e0)) (e : Int) :
    iI_end.v (P p) (.int .i64 e) s = some (unit', IPut s p (irow c 4 pl lv on n e)) := by
  obtain ⟨s1, hs1⟩ : ∃ s1, s1 = IPut s p (irow c 4 pl lv on n e0) := ⟨_, rfl⟩
  have e1 : stv s 1 (.pointer (some ⟨p, 0, some 13⟩)) (.int .i64 4) = some s1 := by rw [hs1]; simp only [stv_row h, sy, reduceIte, Nat.reduceAdd, Nat.reduceLeDiff, Nat.reduceLT, Nat.reduceEqDiff, Int.reduceEq, Int.reduceLT, Int.reduceLE, Int.reduceNe, ly]
  have r1 : IRow s1 p (irow c 4 pl lv on n e0) := by rw [hs1]; exact put_i h
  have e2 : stv s1 1 (.pointer (some ⟨p, 0, some 22⟩)) (.int .i64 e) = some (IPut s p (irow c 4 pl lv on n e)) := by
    simp only [stv_row r1, sy, reduceIte, Nat.reduceAdd, Nat.reduceLeDiff, Nat.reduceLT, Nat.reduceEqDiff, Int.reduceEq, Int.reduceLT, Int.reduceLE, Int.reduceNe, ly]
    rw [hs1, put_put]
  simp only [iI_end.v, iI_end.t, sy, reduceIte, Nat.reduceAdd, Nat.reduceLeDiff, Nat.reduceLT, Nat.reduceEqDiff, Int.reduceEq, Int.reduceLT, Int.reduceLE, Int.reduceNe, ly, e1, e2]
theorem over_i {s : St} {p b q U : Nat} {c : IC} {at' : Int} {pl : Value} {lv : Int} {on : Rf} {n e0 e : Int} (h : IRow s p (irow c at' pl lv on n e0)) : AtI c (IPut s p (irow c 4 pl lv on n e)) p b q U (.over e) ∧ StpK [23] s (IPut s p (irow c 4 pl lv on n e)) :=
  ⟨⟨pl, lv, on, n, put_i h⟩, stp_i h⟩
theorem head_i {s : St} {p : Nat} {c : IC} {at' : Int} {pl : Value} {lv : Int} {on : Rf} {n e0 : Int} (h : IRow s p (irow c at' pl lv on n e0)) : iI_head.r (P p) s = some (.agg ⟨(headR c.h).cs⟩) := by
  simp only [iI_head.r, iI_head.t, sy, reduceIte, Nat.reduceAdd, Nat.reduceLeDiff, Nat.reduceLT, Nat.reduceEqDiff, Int.reduceEq, Int.reduceLT, Int.reduceLE, Int.reduceNe, ly, ldc_row h, headR]
theorem list_i {s : St} {p : Nat} {c : IC} {at' : Int} {pl : Value} {l0 : Int} {on : Rf} {n e0 : Int} (h : IRow s p (irow c at' pl l0 on n e0)) (hC : okI c) {lv : Nat} (hl : (lv : Int) ≤ c.h) : iI_list.r (P p) (.int .i64 (lv : Int)) s = some (.agg ⟨[.int .i64 (lv : Int), .int .u64 (bitsI c lv)]⟩) := by
  obtain ⟨m, d, e1, e2, g1, g2⟩ := hC.2.2.1
  have hln := hC.2.2.2.1
  have pf := Prefix_ok s g1 g2 (i := lv) (by omega)
  have hcu : bitsI c lv = ((d / 2 ^ (m - lv) : Nat) : Int) := by unfold bitsI; rw [e1, e2]; rfl
  have pf : vec_Prefix.r (.agg ⟨[.int .i64 c.me.ln, .int .u64 c.me.bt]⟩) (.int .i64 (lv : Int)) s = some (T2 (.agg ⟨[.int .i64 (lv : Int), .int .u64 (bitsI c lv)]⟩) 0) := by
    rw [hcu, e1, e2]; exact pf
  simp only [iI_list.r, iI_list.t, sy, reduceIte, Nat.reduceAdd, Nat.reduceLeDiff, Nat.reduceLT, Nat.reduceEqDiff, Int.reduceEq, Int.reduceLT, Int.reduceLE, Int.reduceNe, ly, lda_row h, pf]
theorem same2o (a b : Int) : sameV (.agg ⟨[.int .i64 a, .int .i64 b]⟩) (.agg ⟨[.int .i64 a, .int .i64 b]⟩) = true := by simp [sameV, sameVs]
theorem same2u (a b : Int) : sameV (.agg ⟨[.int .i64 a, .int .u64 b]⟩) (.agg ⟨[.int .i64 a, .int .u64 b]⟩) = true := by simp [sameV, sameVs]
theorem same1 {k : IntKind} (a : Int) : sameV (.int k a) (.int k a) = true := by simp [sameV]
theorem bits_nn (c : IC) (lv : Nat) : 0 ≤ bitsI c lv := Int.natCast_nonneg _
theorem me_nn {c : IC} (hC : okI c) : 0 ≤ c.me.bt := by obtain ⟨m, d, e1, e2, g1, g2⟩ := hC.2.2.1; omega
theorem splice_i {s : St} {p b q : Nat} {c : IC} {at' : Int} {pl : Value} {lv : Nat} {on : Rf} {n : Int} (f : Fresh s) (hC : okI c) (hl : (lv : Int) ≤ c.h) (h : IRow s p (irow c at' pl lv on n 0)) {fr : Rf} (h1 : okK fr.rk fr.n) (h2 : lessK fr.rk fr.n c.me.rk c.me.n) :
    ∃ s', iI_splice.v (P p) (.agg ⟨fr.cs⟩) s = some (unit', s') ∧ AtI c s' p b q s.n (spliceI c lv fr n) ∧ StpK [23] s s' := by
  have ls := list_i h hC hl
  have sm := same5 c.me
  have so := same2o c.oa c.oo
  have q1 := Sp.new_yes (c := cfS c lv fr) f (me_nn hC) (bits_nn c lv) (ok_cf hC hl h1 h2)
  have m2 : More s (s.new (.row 44 [Sp.urow (cfS c lv fr) (Sp.m0 (cfS c lv fr)) (.pointer none) .nilFunc] false)) := .new
  have u2 : Sp.Row (s.new (.row 44 [Sp.urow (cfS c lv fr) (Sp.m0 (cfS c lv fr)) (.pointer none) .nilFunc] false)) s.n (Sp.urow (cfS c lv fr) (Sp.m0 (cfS c lv fr)) (.pointer none) .nilFunc) := get_new_same
  generalize s.new (.row 44 [Sp.urow (cfS c lv fr) (Sp.m0 (cfS c lv fr)) (.pointer none) .nilFunc] false) = s2 at *
  have f2 := m2.fresh f
  have a2 : Sp.At (cfS c lv fr) (Sp.m0 (cfS c lv fr)) s2 s.n := ⟨_, _, u2, rfl, fun e => by simp [Sp.m0] at e⟩
  have r2 : IRow s2 p (irow c at' pl lv on n 0) := m2.get f h
  obtain ⟨s3, hs3⟩ : ∃ s3, s3 = IPut s2 p (irow c 1 pl lv on n 0) := ⟨_, rfl⟩
  have e3 : stv s2 1 (.pointer (some ⟨p, 0, some 13⟩)) (.int .i64 1) = some s3 := by rw [hs3]; simp only [stv_row r2, sy, reduceIte, Nat.reduceAdd, Nat.reduceLeDiff, Nat.reduceLT, Nat.reduceEqDiff, Int.reduceEq, Int.reduceLT, Int.reduceLE, Int.reduceNe, ly]
  have r3 : IRow s3 p (irow c 1 pl lv on n 0) := by rw [hs3]; exact put_i r2
  have e4 : stv s3 1 (.pointer (some ⟨p, 0, some 14⟩)) (tP s.n) = some (IPut s2 p (irow c 1 (tP s.n) lv on n 0)) := by
    simp only [stv_row r3, bx_if, sy, reduceIte, Nat.reduceAdd, Nat.reduceLeDiff, Nat.reduceLT, Nat.reduceEqDiff, Int.reduceEq, Int.reduceLT, Int.reduceLE, Int.reduceNe, ly]
    rw [hs3, put_put]
  have k4 : StpK [23] s2 (IPut s2 p (irow c 1 (tP s.n) lv on n 0)) := stp_i r2
  refine ⟨_, ?_, ⟨on, put_i r2, a2.stk k4 (by simp) (by simp) (by simp) (by simp)⟩, (StpK.more m2 f).trans k4⟩
  simp only [cfS, Sp.Cf.cs] at q1
  simp only [iI_splice.v, iI_splice.t, iI_splice.t.p1, sy, reduceIte, Nat.reduceAdd, Nat.reduceLeDiff, Nat.reduceLT, Nat.reduceEqDiff, Int.reduceEq, Int.reduceLT, Int.reduceLE, Int.reduceNe, ly, ldc_row h, lda_row h, ls, q1, lda_row r2, sm, so, e3, e4]
theorem seek_i {s : St} {p b q U : Nat} {c : IC} {at' : Int} {pl : Value} {on : Rf} {n : Int} (f : Fresh s) (hC : okI c) (hn : 0 ≤ n) (h : IRow s p (irow c at' pl 0 on n 0)) :
    ∃ s' b' q', iI_seek.v (P p) s = some (unit', s') ∧ AtI c s' p b' q' U (if 64 ≤ n then .over 121 else .seek c.sh (m0 c.sh) (n + 1)) ∧ StpK [23] s s' := by
  rcases Classical.propComplete (64 ≤ n) with k1 | k1
  · rw [if_pos (of_eq_true k1)]
    have en := end_i h 121
    obtain ⟨g3, g4⟩ := over_i (b := b) (q := q) (U := U) (e := 121) h
    exact ⟨_, b, q, by simp only [iI_seek.v, iI_seek.t, sy, reduceIte, Nat.reduceAdd, Nat.reduceLeDiff, Nat.reduceLT, Nat.reduceEqDiff, Int.reduceEq, Int.reduceLT, Int.reduceLE, Int.reduceNe, ly, ldc_row h, k1, en], g3, g4⟩
  · rw [if_neg (of_eq_false k1)]
    have k1' : n < 64 := by have := of_eq_false k1; omega
    have ew : IntKind.i64.wrap (n + 1) = n + 1 := wrap64 (by omega) (by omega)
    obtain ⟨s1, hs1⟩ : ∃ s1, s1 = IPut s p (irow c at' pl 0 on (n + 1) 0) := ⟨_, rfl⟩
    have e1 : stv s 1 (.pointer (some ⟨p, 0, some 21⟩)) (.int .i64 (n + 1)) = some s1 := by rw [hs1]; simp only [stv_row h, sy, reduceIte, Nat.reduceAdd, Nat.reduceLeDiff, Nat.reduceLT, Nat.reduceEqDiff, Int.reduceEq, Int.reduceLT, Int.reduceLE, Int.reduceNe, ly]
    have r1 : IRow s1 p (irow c at' pl 0 on (n + 1) 0) := by rw [hs1]; exact put_i h
    have k1s : StpK [23] s s1 := by rw [hs1]; exact stp_i h
    have f1 := k1s.2.2 f
    have hd := head_i r1
    have s2k := same2u c.me.rk c.me.n
    have s1h : sameV (.int .i64 c.h) (.int .i64 c.h) = true := same1 c.h
    rcases new_r f1 c.sh (Int.le_refl 0) with ⟨g, _⟩ | ⟨_, e2⟩
    · exact absurd (ok_sh hC) g
    have hA2 := at_new f1 c.sh
    have mo : More s1 (N2 s1 c.sh) := More.new.trans .new
    have f2 := mo.fresh f1
    generalize N2 s1 c.sh = s2 at *
    have r2 : IRow s2 p (irow c at' pl 0 on (n + 1) 0) := mo.get f1 r1
    obtain ⟨s3, hs3⟩ : ∃ s3, s3 = IPut s2 p (irow c 1 pl 0 on (n + 1) 0) := ⟨_, rfl⟩
    have e3 : stv s2 1 (.pointer (some ⟨p, 0, some 13⟩)) (.int .i64 1) = some s3 := by rw [hs3]; simp only [stv_row r2, sy, reduceIte, Nat.reduceAdd, Nat.reduceLeDiff, Nat.reduceLT, Nat.reduceEqDiff, Int.reduceEq, Int.reduceLT, Int.reduceLE, Int.reduceNe, ly]
    have r3 : IRow s3 p (irow c 1 pl 0 on (n + 1) 0) := by rw [hs3]; exact put_i r2
    have e4 : stv s3 1 (.pointer (some ⟨p, 0, some 14⟩)) (tS (s1.n + 1)) = some (IPut s2 p (irow c 1 (tS (s1.n + 1)) 0 on (n + 1) 0)) := by
      simp only [stv_row r3, bx_if, sy, reduceIte, Nat.reduceAdd, Nat.reduceLeDiff, Nat.reduceLT, Nat.reduceEqDiff, Int.reduceEq, Int.reduceLT, Int.reduceLE, Int.reduceNe, ly]
      rw [hs3, put_put]
    have k4 : StpK [23] s2 (IPut s2 p (irow c 1 (tS (s1.n + 1)) 0 on (n + 1) 0)) := stp_i r2
    refine ⟨_, s1.n + 1, s1.n, ?_, ⟨on, put_i r2, hA2.stp k4 (by simp) (by simp)⟩, (k1s.trans (.more mo f1)).trans k4⟩
    simp only [IC.sh, headR] at e2 hd
    simp only [iI_seek.v, iI_seek.t, sy, reduceIte, Nat.reduceAdd, Nat.reduceLeDiff, Nat.reduceLT, Nat.reduceEqDiff, Int.reduceEq, Int.reduceLT, Int.reduceLE, Int.reduceNe, ly, ldc_row h, k1, ew, e1, ldc_row r1, lda_row r1, hd, e2, ldc_row r2, lda_row r2, s2k, s1h, e3, e4]
theorem up_i {s : St} {p b q U : Nat} {c : IC} {at' : Int} {pl : Value} {lv : Nat} {on : Rf} {n : Int} (hC : okI c) (hl : (lv : Int) ≤ c.h) (h : IRow s p (irow c at' pl lv on n 0)) :
    ∃ s', iI_up.v (P p) s = some (unit', s') ∧ AtI c s' p b q U (upI c lv n) ∧ StpK [23] s s' := by
  unfold upI
  have h32 := hC.1.2.1
  have h32 : c.h ≤ 32 := h32
  rcases Classical.propComplete ((lv : Int) = c.h) with k1 | k1
  · rw [if_pos (of_eq_true k1)]
    have e1 : stv s 1 (.pointer (some ⟨p, 0, some 13⟩)) (.int .i64 3) = some (IPut s p (irow c 3 pl lv on n 0)) := by simp only [stv_row h, sy, reduceIte, Nat.reduceAdd, Nat.reduceLeDiff, Nat.reduceLT, Nat.reduceEqDiff, Int.reduceEq, Int.reduceLT, Int.reduceLE, Int.reduceNe, ly]
    exact ⟨_, by simp only [iI_up.v, iI_up.t, sy, reduceIte, Nat.reduceAdd, Nat.reduceLeDiff, Nat.reduceLT, Nat.reduceEqDiff, Int.reduceEq, Int.reduceLT, Int.reduceLE, Int.reduceNe, ly, ldc_row h, k1, e1], ⟨pl, lv, on, n, put_i h⟩, stp_i h⟩
  · rw [if_neg (of_eq_false k1)]
    have ew : IntKind.i64.wrap ((lv : Int) + 1) = ((lv + 1 : Nat) : Int) := by rw [wrap64 (by omega) (by omega)]; omega
    obtain ⟨s1, hs1⟩ : ∃ s1, s1 = IPut s p (irow c at' pl ((lv + 1 : Nat) : Int) on n 0) := ⟨_, rfl⟩
    have e1 : stv s 1 (.pointer (some ⟨p, 0, some 15⟩)) (.int .i64 ((lv + 1 : Nat) : Int)) = some s1 := by rw [hs1]; simp only [stv_row h, sy, reduceIte, Nat.reduceAdd, Nat.reduceLeDiff, Nat.reduceLT, Nat.reduceEqDiff, Int.reduceEq, Int.reduceLT, Int.reduceLE, Int.reduceNe, ly]
    have r1 : IRow s1 p (irow c at' pl ((lv + 1 : Nat) : Int) on n 0) := by rw [hs1]; exact put_i h
    obtain ⟨s2, hs2⟩ : ∃ s2, s2 = IPut s1 p (irow c 2 pl ((lv + 1 : Nat) : Int) on n 0) := ⟨_, rfl⟩
    have e2 : stv s1 1 (.pointer (some ⟨p, 0, some 13⟩)) (.int .i64 2) = some s2 := by rw [hs2]; simp only [stv_row r1, sy, reduceIte, Nat.reduceAdd, Nat.reduceLeDiff, Nat.reduceLT, Nat.reduceEqDiff, Int.reduceEq, Int.reduceLT, Int.reduceLE, Int.reduceNe, ly]
    have r2 : IRow s2 p (irow c 2 pl ((lv + 1 : Nat) : Int) on n 0) := by rw [hs2]; exact put_i r1
    have e3 : stv s2 5 (.pointer (some ⟨p, 0, some 16⟩)) (.agg ⟨c.me.cs⟩) = some (IPut s2 p (irow c 2 pl ((lv + 1 : Nat) : Int) c.me n 0)) := by simp only [stv_row r2, sy, reduceIte, Nat.reduceAdd, Nat.reduceLeDiff, Nat.reduceLT, Nat.reduceEqDiff, Int.reduceEq, Int.reduceLT, Int.reduceLE, Int.reduceNe, ly]
    have ka : StpK [23] s s1 := by rw [hs1]; exact stp_i h
    have kb : StpK [23] s1 s2 := by rw [hs2]; exact stp_i r1
    exact ⟨_, by simp only [iI_up.v, iI_up.t, sy, reduceIte, Nat.reduceAdd, Nat.reduceLeDiff, Nat.reduceLT, Nat.reduceEqDiff, Int.reduceEq, Int.reduceLT, Int.reduceLE, Int.reduceNe, ly, ldc_row h, k1, ew, e1, lda_row r1, e2, e3], ⟨pl, put_i r2⟩, (ka.trans kb).trans (stp_i r2)⟩
theorem spliced_i {s : St} {p b q U : Nat} {c : IC} {at' : Int} {pl : Value} {lv : Nat} {on : Rf} {n : Int} (f : Fresh s) (hC : okI c) (hn : 0 ≤ n) (hl : (lv : Int) ≤ c.h) (h : IRow s p (irow c at' pl lv on n 0)) (e : Int) :
    ∃ s' b' q' U', iI_spliced.v (P p) (.int .i64 e) s = some (unit', s') ∧ AtI c s' p b' q' U' (splicedI c lv n e) ∧ StpK [23] s s' := by
  unfold splicedI
  obtain ⟨s1, u1, u2, u3⟩ := up_i (b := b) (q := q) (U := U) hC hl h
  have hd := head_i h
  rcases Classical.propComplete (e = 0) with k1 | k1
  · rw [if_pos (.inl (of_eq_true k1))]
    exact ⟨s1, b, q, U, by simp only [iI_spliced.v, iI_spliced.t, sy, reduceIte, Nat.reduceAdd, Nat.reduceLeDiff, Nat.reduceLT, Nat.reduceEqDiff, Int.reduceEq, Int.reduceLT, Int.reduceLE, Int.reduceNe, ly, k1, u1], u2, u3⟩
  · rcases Classical.propComplete (e = 133) with k2 | k2
    · have k3 : (e = 131) = False := eq_false (by have := of_eq_true k2; omega)
      by_cases h0 : 0 < lv
      · rw [if_pos (.inr ⟨of_eq_true k2, h0⟩)]
        have h0' : (0 : Int) < (lv : Int) := by omega
        exact ⟨s1, b, q, U, by simp only [iI_spliced.v, iI_spliced.t, sy, reduceIte, Nat.reduceAdd, Nat.reduceLeDiff, Nat.reduceLT, Nat.reduceEqDiff, Int.reduceEq, Int.reduceLT, Int.reduceLE, Int.reduceNe, ly, k1, k2, ldc_row h, h0', u1], u2, u3⟩
      · rw [if_neg (by rintro (g | ⟨_, g⟩); exact of_eq_false k1 g; exact h0 g), if_neg (of_eq_false k3)]
        have h0' : ¬ (0 : Int) < (lv : Int) := by omega
        have en := end_i h e
        obtain ⟨g3, g4⟩ := over_i (b := b) (q := q) (U := U) (e := e) h
        exact ⟨_, b, q, U, by simp only [iI_spliced.v, iI_spliced.t, sy, reduceIte, Nat.reduceAdd, Nat.reduceLeDiff, Nat.reduceLT, Nat.reduceEqDiff, Int.reduceEq, Int.reduceLT, Int.reduceLE, Int.reduceNe, ly, k1, k2, k3, ldc_row h, h0', en], g3, g4⟩
    · rw [if_neg (by rintro (g | ⟨g, _⟩); exact of_eq_false k1 g; exact of_eq_false k2 g)]
      rcases Classical.propComplete (e = 131) with k3 | k3
      · rw [if_pos (of_eq_true k3)]
        by_cases h0 : lv = 0
        · rw [if_pos h0]
          subst h0
          have h0' : (((0 : Nat) : Int) = 0) := rfl
          obtain ⟨s2, b2, q2, v1, v2, v3⟩ := seek_i (b := b) (q := q) (U := U) f hC hn h
          exact ⟨s2, b2, q2, U, by simp only [iI_spliced.v, iI_spliced.t, sy, reduceIte, Nat.reduceAdd, Nat.reduceLeDiff, Nat.reduceLT, Nat.reduceEqDiff, Int.reduceEq, Int.reduceLT, Int.reduceLE, Int.reduceNe, ly, k1, k2, k3, ldc_row h, h0', v1], v2, v3⟩
        · rw [if_neg h0]
          have h0' : ¬ ((lv : Int) = 0) := by omega
          obtain ⟨w1, w2⟩ := head_ok (c := c) hC.2.1
          obtain ⟨s2, v1, v2, v3⟩ := splice_i (b := b) (q := q) f hC hl h w1 w2
          exact ⟨s2, b, q, s.n, by simp only [iI_spliced.v, iI_spliced.t, sy, reduceIte, Nat.reduceAdd, Nat.reduceLeDiff, Nat.reduceLT, Nat.reduceEqDiff, Int.reduceEq, Int.reduceLT, Int.reduceLE, Int.reduceNe, ly, k1, k2, k3, ldc_row h, h0', hd, v1], v2, v3⟩
      · rw [if_neg (of_eq_false k3)]
        have en := end_i h e
        obtain ⟨g3, g4⟩ := over_i (b := b) (q := q) (U := U) (e := e) h
        exact ⟨_, b, q, U, by simp only [iI_spliced.v, iI_spliced.t, sy, reduceIte, Nat.reduceAdd, Nat.reduceLeDiff, Nat.reduceLT, Nat.reduceEqDiff, Int.reduceEq, Int.reduceLT, Int.reduceLE, Int.reduceNe, ly, k1, k2, k3, en], g3, g4⟩
theorem nx_s (b : Nat) (s : St) : callI Tryz.prog (iI_Next.ctx) "Next" (tS b) [] s = (kS_Next.w [P b] s).map fun r => (r, s) := by kernel_rfl
theorem nx_p (b : Nat) (s : St) : callI Tryz.prog (iI_Next.ctx) "Next" (tP b) [] s = (pS_Next.w [P b] s).map fun r => (r, s) := by kernel_rfl
theorem np_s (b : Nat) (s : St) : callI Tryz.prog (iI_played.ctx) "Next" (tS b) [] s = (kS_Next.w [P b] s).map fun r => (r, s) := by kernel_rfl
theorem np_p (b : Nat) (s : St) : callI Tryz.prog (iI_played.ctx) "Next" (tP b) [] s = (pS_Next.w [P b] s).map fun r => (r, s) := by kernel_rfl
theorem te_s (b : Nat) (a : Value) (s : St) : callI Tryz.prog (iI_Tell.ctx) "Tell" (tS b) [a] s = kS_Tell.w [P b, a] s := by kernel_rfl
theorem te_p (b : Nat) (a : Value) (s : St) : callI Tryz.prog (iI_Tell.ctx) "Tell" (tP b) [a] s = pS_Tell.w [P b, a] s := by kernel_rfl
theorem wa_s (b : Nat) (s : St) : callI Tryz.prog (iI_Wake.ctx) "Wake" (tS b) [] s = (kS_Wake.w [P b] s).map fun r => (r, s) := by kernel_rfl
theorem wa_p (b : Nat) (s : St) : callI Tryz.prog (iI_Wake.ctx) "Wake" (tP b) [] s = pS_Wake.w [P b] s := by kernel_rfl
theorem tas_s (b : Nat) : tas Tryz.prog 109 true (.pointer none) (tS b) = some (.tuple ⟨[.pointer none, .bool false]⟩) := by kernel_rfl
theorem tas_p (b : Nat) : tas Tryz.prog 109 true (.pointer none) (tP b) = some (.tuple ⟨[P b, .bool true]⟩) := by kernel_rfl
end Go.Proofs.YteafgjpbfhjbjaaGreat
