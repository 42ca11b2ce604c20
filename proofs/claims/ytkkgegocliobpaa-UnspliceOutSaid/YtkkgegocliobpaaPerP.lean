/-
  Law 14's list, whole.
-/
import Derived.Test.YtkkgegocliobpaaPerO
set_option linter.unusedSimpArgs false
set_option linter.unusedVariables false
set_option maxRecDepth 100000
set_option maxHeartbeats 2000000
namespace Go.Proofs.Ytkkgegocliobpaa
open Go.Sim Go.Sim.Bt
attribute [local congr] bdc cndc itec gdc gdSc gdUc

/-- A world of peers side by side, that all show what they should. -/
structure Wd14 (R : List Rf) (rv pv : Value) (ps : List (Pr × Nat)) (s : St) : Prop where
  r : Ful 0 s 5 rv (R.map Rf.cs)
  p : Ful 0 s 1 pv (ps.map PB)
  w : WAt ps s
  l : ps.length = R.length
theorem list14 {kv : Value} {ks : List Int} {s : St} (hk : IsR s 1 kv (ks.map U1)) (f : Fresh s) :
    ∃ rv pv s' ps, leapfroglaw14x_list.v kv s = some (.tuple ⟨[rv, pv]⟩, s') ∧ Fresh s' ∧ Wd14 (mkR (srtN (ks.take 12))) rv pv ps s' ∧
      ∀ (j : Nat) q, ps[j]? = some q → Vw q.1 (rec14 (mkR (srtN (ks.take 12))) j) ∧ (mkR (srtN (ks.take 12)))[j]? = some q.1.me ∧ (q.1.en = true ↔ (j = 0 ∨ j + 1 = (mkR (srtN (ks.take 12))).length)) ∧ q.1.ma = false := by
  obtain ⟨lv, s1, e1, h1, m1, f1⟩ := keys14 hk f
  rw [show ((0 : Nat) : Int) = 0 from rfl] at e1
  obtain ⟨v2, s2, e2, h2, m2, f2⟩ := sorted_r h1.isR f1 (by rw [List.length_take]; omega)
  obtain ⟨sp1, _, sp3⟩ := srtN_spec (ks.take 12)
  have hS : (srtN (ks.take 12)).length ≤ 12 := by rw [List.length_take] at sp3; omega
  have hR := mkR_ok sp1 (by omega)
  have hmk : mkR (srtN (ks.take 12)) = (endL 0 :: (List.range (srtN (ks.take 12)).length).map (inR (srtN (ks.take 12)))) ++ [endR 0] := rfl
  have hRl := mkR_len (srtN (ks.take 12))
  have hd : leapfrogref12x_Head.r (.int .i64 0) s2 = some (.agg ⟨(endL 0).cs⟩) := by
    simp only [leapfrogref12x_Head.r, leapfrogref12x_Head.t, sy, reduceIte, Nat.reduceAdd, Nat.reduceLeDiff, Nat.reduceLT, Nat.reduceEqDiff, Int.reduceEq, Int.reduceLT, Int.reduceLE, Int.reduceNe, ly]
  have u1 : Ful s2.n (s2.new (.row 5 [(endL 0).cs] false)) 5 (.slice (some ⟨s2.n, 0, some 0⟩) 1 2) [(endL 0).cs] := ful_one (Nat.le_refl _)
  obtain ⟨rv0, s4, e4, h4, m4, f4, _⟩ := refs14 (h2.more .new f2) u1 .new f2.new (by omega)
  rw [show ((0 : Nat) : Int) = 0 from rfl] at e4
  have tl : leapfrogref12x_Tail.r (.int .i64 0) s4 = some (.agg ⟨(endR 0).cs⟩) := by
    simp only [leapfrogref12x_Tail.r, leapfrogref12x_Tail.t, sy, reduceIte, Nat.reduceAdd, Nat.reduceLeDiff, Nat.reduceLT, Nat.reduceEqDiff, Int.reduceEq, Int.reduceLT, Int.reduceLE, Int.reduceNe, ly]
  have hll : ((endL 0 :: (List.range (srtN (ks.take 12)).length).map (inR (srtN (ks.take 12)))).map Rf.cs).length ≤ 100 := by simp; omega
  obtain ⟨rv, s5, e5, m5, h5, f5, _⟩ := push f4 h4 m4 (by_ := 40) (endR 0).cs (by omega) (by omega)
  have h5 : Ful s2.n s5 5 rv ((mkR (srtN (ks.take 12))).map Rf.cs) := by
    rw [hmk, List.map_append]; exact h5
  generalize mkR (srtN (ks.take 12)) = R at *
  obtain ⟨pv, s6, ps, e6, m6, f6, hp, hw, _, hl, hq⟩ := peers14 hR h5.isR f5 (.refl _) f5
  rw [show ((0 : Nat) : Int) = 0 from rfl] at e6
  have r6 := h5.isR.more m6 f5
  obtain ⟨b0, b1, x1, xn, w1, t1, w2, t2, w3, t3, w4, t4, ps', g0, g1, gx1, gxn, a1, k1, a2, k2, a3, k3, a4, k4, hps, W, Q⟩ := ends14 hR f6 r6 hp.isR hw hl hq
  have p6 := hp.isR
  obtain ⟨q0, h0, rfl⟩ := Option.map_eq_some_iff.1 g0
  obtain ⟨qn, hn, rfl⟩ := Option.map_eq_some_iff.1 g1
  have f7 := k1.2.2 f6
  have p7 := p6.stp k1 (by simp)
  have p8 := p7.stp k2 (by simp)
  have p9 := p8.stp k3 (by simp)
  have p10 := p9.stp k4 (by simp)
  have r7 := r6.stp k1 (by simp)
  have r8 := r7.stp k2 (by simp)
  have r9 := r8.stp k3 (by simp)
  have r10 := r9.stp k4 (by simp)
  obtain ⟨_, _, i6, j6, o6⟩ := p6.at2 (pb_get h0)
  obtain ⟨_, _, i7, j7, o7⟩ := p7.at2 (pb_get h0)
  obtain ⟨_, _, i8, j8, o8⟩ := p8.at2 (pb_get h0)
  obtain ⟨_, _, i9, j9, o9⟩ := p9.at2 (pb_get h0)
  obtain ⟨_, _, i9', j9', o9'⟩ := p9.at2 (pb_get hn)
  obtain ⟨_, _, i10, j10, o10⟩ := p10.at2 (pb_get hn)
  obtain ⟨_, _, y7, z7, o7'⟩ := r7.at2 (rf_get gx1)
  obtain ⟨_, _, y8, z8, o8'⟩ := r8.at2 (rf_get gx1)
  obtain ⟨_, _, y9, z9, o9r⟩ := r9.at2 (rf_get gxn)
  obtain ⟨_, _, y10, z10, o10r⟩ := r10.at2 (rf_get gxn)
  rw [j9] at j9'
  cases j9'
  have z0 : ((0 : Nat) : Int) = 0 := rfl
  have z1 : ((1 : Nat) : Int) = 1 := rfl
  rw [z0] at i6 i7 i8 i9
  rw [z1] at y7 y8
  have hlen := r6.len
  rw [List.length_map] at hlen
  have c1 : IntKind.i64.wrap ((R.length : Int) - 1) = ((R.length - 1 : Nat) : Int) := by rw [wrap64 (by omega) (by omega)]; omega
  have c2 : IntKind.i64.wrap ((R.length : Int) - 2) = ((R.length - 2 : Nat) : Int) := by rw [wrap64 (by omega) (by omega)]; omega
  have s1' := same5r x1
  have sn' := same5r xn
  have hpb : ps'.map PB = ps.map PB := by
    have := congrArg (List.map fun b : Nat => ([PP b] : List Value)) hps
    rw [List.map_map, List.map_map] at this
    exact this
  refine ⟨rv, pv, t4, ps', ?_, k4.2.2 (k3.2.2 (k2.2.2 f7)), ⟨(((((h5.le (Nat.zero_le _)).more m6 f5).stp k1 (by simp)).stp k2 (by simp)).stp k3 (by simp)).stp k4 (by simp), by rw [hpb]; exact ((((hp.le (Nat.zero_le _)).stp k1 (by simp)).stp k2 (by simp)).stp k3 (by simp)).stp k4 (by simp), W, ?_⟩, Q⟩
  · simp only [leapfroglaw14x_list.v, leapfroglaw14x_list.t, leapfroglaw14x_list.t.p1, leapfroglaw14x_list.t.p2, sy, reduceIte, Nat.reduceAdd, Nat.reduceLeDiff, Nat.reduceLT, Nat.reduceEqDiff, Int.reduceEq, Int.reduceLT, Int.reduceLE, Int.reduceNe, ly, e1, e2, hd, als_eq, Nat.reduceMul, e4, tl, e5, e6, hlen, i6, ldc_row j6, o6, a1, i7, samePj, ldc_row j7, o7, y7, lda_row z7, o7', a2, i8, y8, lda_row z8, o8', s1', ldc_row j8, o8, a3, i9, c1, i9', ldc_row j9, o9', c2, y9, lda_row z9, o9r, a4, i10, y10, lda_row z10, o10r, sn']
  · have := congrArg List.length hps
    rw [List.length_map, List.length_map] at this
    omega
end Go.Proofs.Ytkkgegocliobpaa
