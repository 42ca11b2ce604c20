/-
  ProbeFinds, over abstract values.
-/
import Derived.Test.YtogcfnhbacglfaaPrbK
set_option linter.unusedSimpArgs false
set_option linter.unusedVariables false
set_option maxRecDepth 100000
set_option maxHeartbeats 4000000
namespace Go.Proofs.Ytogcfnhbacglfaa
open Go.Sim Go.Sim.Bt
attribute [local congr] bdc cndc itec gdc gdSc gdUc
namespace ProbeFinds

theorem awake_r (s : St) : leapfroglaw19x_awakeC.r s = some (.bool true) := rfl
/-- From the peer at hand on. -/
theorem tail_v {W : Wd} {ds odd : List Bool} {lv dv ov : Value} {me : Rf} {n b : Nat} {s : St} (h : WdAt W ds s lv dv) (ho : IsR s 1 ov (odd.map BC)) (f : Fresh s) (hk : okK me.rk me.n) (hn : n ≤ 32) (hb : b < 2 ^ n) (hln : me.ln = n) (hbt : me.bt = b) :
    ∃ r26 s26 s27 s28 s31 Q s', leapfrogref01x_Prefixes.v (.agg ⟨[.int .i64 me.ln, .int .u64 me.bt]⟩) s = some (r26, s26) ∧ bx r26 = some [r26] ∧ alv s26 (.agg ⟨[.int .i64 0, .int .i64 0, .int .u64 0, .int .i64 0, .int .u64 0, .slice none 0 0]⟩) = some (PU s26.n, s27) ∧
      stv s27 6 (PU s26.n) (.agg ⟨ccs ⟨me, []⟩ r26⟩) = some s28 ∧ lda s28 6 (PU s26.n) = some (.agg ⟨ccs ⟨me, []⟩ r26⟩) ∧ probe_New.v (.agg ⟨ccs ⟨me, []⟩ r26⟩) s28 = some (.tuple ⟨[PU Q, .int .i64 0]⟩, s31) ∧
      leapfroglaw19x_ProbeFinds.t.p1 std ov (PU s26.n, s27) (PU Q) [.int .i64 W.h, lv, dv] me.cs (.tuple ⟨[PU Q, .int .i64 0]⟩, s31) = some (.bool true, s') := by
  obtain ⟨r, s1, m1, i1, e1⟩ := rPrefixes_ok f hn hb
  have f1 := m1.fresh f
  obtain ⟨s3, m3, g3, q3⟩ : ∃ s3, More s1 s3 ∧ s3.get s1.n = some (.row 6 [ccs ⟨me, []⟩ r] false) ∧ stv (s1.new (.row 6 [[.int .i64 0, .int .i64 0, .int .u64 0, .int .i64 0, .int .u64 0, .slice none 0 0]] false)) 6 (PU s1.n) (.agg ⟨ccs ⟨me, []⟩ r⟩) = some s3 := by
    refine ⟨(s1.new (.row 6 [[.int .i64 0, .int .i64 0, .int .u64 0, .int .i64 0, .int .u64 0, .slice none 0 0]] false)).put s1.n (.row 6 [ccs ⟨me, []⟩ r] false), More.new.put (Nat.le_refl _), get_put_same get_new_same, ?_⟩
    rw [stv_row get_new_same]; rfl
  have f3 := m3.fresh f1
  have hc : ∃ c : Pc, c = ⟨me, pre n b⟩ := ⟨_, rfl⟩
  obtain ⟨c, hc⟩ := hc
  have hcl : c.ls.length = n + 1 := by rw [hc]; exact pre_length n b
  have hmem : ∀ p ∈ c.ls, 0 ≤ p.2 ∧ okV p.1 p.2 := by
    intro p hp
    rw [hc] at hp
    simp only [pre, List.mem_map, List.mem_range] at hp
    obtain ⟨i, hi, rfl⟩ := hp
    exact ⟨Int.natCast_nonneg _, i, b / 2 ^ (n - i), rfl, rfl, by omega, div_lt_pow hb (by omega)⟩
  have i3 : IsR s3 2 r (c.ls.map V2) := by rw [hc]; exact i1.more m3 f1
  have okc : okP c := by
    refine ⟨by rw [hc]; exact hk, by rw [hc]; exact ⟨n, b, hln, hbt, hn, hb⟩, by omega, fun p hp => (hmem p hp).2⟩
  have hme : c.me = me := by rw [hc]
  have hcs : ccs c r = ccs ⟨me, []⟩ r := by rw [hc]
  obtain ⟨Q, s4, n2, n3, n4, n5, n6⟩ := (new_v f3 i3 (fun p hp => (hmem p hp).1) (by rw [hme, hbt]; omega) (by omega)).1 okc
  rw [hcs] at n2
  have F4 : Fix W ds odd c lv dv ov r s1.n s4 := by
    have m4 : More s s4 := m1.trans (m3.trans n4)
    exact ⟨h.more m4 f, ho.more m4 f, by rw [hcs]; exact n4.get f3 g3, i3.more n4 f3, fun p hp => (hmem p hp).1⟩
  obtain ⟨k, s5, x, k1, k2, k3, k4, k5, k6⟩ := play_loop F4 n5 n3 (by omega)
  obtain ⟨wv, s6, w1, w2, w3, w4⟩ := want_loop (Q := Q) k3 k4 (by omega)
  have q6 := k5.stp (.more w2 k4) (by decide : 15 ∉ ([] : List Nat)) (by decide) (by decide)
  obtain ⟨bw, s7, b1, b2, b3, b4⟩ := breaks_v q6 k6 w3
  have w7 := w4.more b2 w3
  have q7 := q6.stp (.more b2 w3) (by decide : 15 ∉ ([] : List Nat)) (by decide) (by decide)
  have hbl := allB_len W odd c c.ls.length
  have sb := sameB_v b4 w7 (by show (allB W odd c c.ls.length).length ≤ _; omega)
  have nx5 := next_v k5 k6
  have nx7 := next_v q7 k6
  have hnone : c.ls[c.ls.length]? = none := List.getElem?_eq_none_iff.2 (Nat.le_refl _)
  unfold nextC at nx5 nx7
  simp only [hnone] at nx5 nx7
  have hwl := w4.len
  rw [List.length_map] at hwl
  have hcr := k3.cr
  have hll := k3.l.len
  rw [List.length_map] at hll
  refine ⟨r, s1, _, s3, s4, Q, s7, by rw [hln, hbt]; exact e1, i1.bx, rfl, q3, ?_, n2, ?_⟩
  · rw [lda_row g3]; rfl
  · rw [show ((0 : Nat) : Int) = 0 from rfl] at k2 w1
    rw [hme] at k2 w1
    have e2 : IntKind.i64.wrap (2 * (c.ls.length : Int)) = ((2 * c.ls.length : Nat) : Int) := by rw [wrap64 (by omega) (by omega)]; omega
    have e3 : ¬ ((2 * c.ls.length : Nat) : Int) < (k : Int) := by omega
    have e4 : ¬ (k : Int) > ((2 * c.ls.length : Nat) : Int) := by omega
    by_cases z : 0 < (allB W odd c c.ls.length).length
    · have z' : (0 : Int) < ((allB W odd c c.ls.length).length : Int) := by omega
      simp only [leapfroglaw19x_ProbeFinds.t.p1, sy, reduceIte, Nat.reduceAdd, Nat.reduceLeDiff, Nat.reduceLT, Nat.reduceEqDiff, Int.reduceEq, Int.reduceLT, Int.reduceLE, Int.reduceNe, ly, k2, nx5, ldc_row hcr, hll, e2, e3, e4, w1, b1, sb, nx7, hwl, z, z']
    · have z' : ¬ (0 : Int) < ((allB W odd c c.ls.length).length : Int) := by omega
      simp only [leapfroglaw19x_ProbeFinds.t.p1, sy, reduceIte, Nat.reduceAdd, Nat.reduceLeDiff, Nat.reduceLT, Nat.reduceEqDiff, Int.reduceEq, Int.reduceLT, Int.reduceLE, Int.reduceNe, ly, k2, nx5, ldc_row hcr, hll, e2, e3, e4, w1, b1, sb, nx7, hwl, z, z']
theorem law (s : St) (us : List Value) (ha : AllRo s) (hf : ∀ b, s.n ≤ b → s.get b = none) (h : Args s [(false, [.i .u8]), (false, [.sl [.i .u64]]), (false, [.sl [.i .u64]]), (false, [.sl [.b]]), (false, [.sl [.b]]), (false, [.i .u8])] us) :
    ∃ s', leapfroglaw19x_ProbeFinds.w us s = some (.bool true, s') := by
  simp only [Args, Arg, Leaf.Are] at h
  obtain ⟨a0, _, rfl, ⟨_, _, g0, h0, rfl⟩, a1, _, rfl, ⟨_, _, g1, h1, rfl⟩, a2, _, rfl, ⟨_, _, g2, h2, rfl⟩, a3, _, rfl, ⟨_, _, g3, h3, rfl⟩, a4, _, rfl, ⟨_, _, g4, h4, rfl⟩, a5, _, rfl, ⟨_, _, g5, h5, rfl⟩, rfl⟩ := h
  cases g0; cases g1; cases g2; cases g3; cases g4; cases g5
  unfold Leaf.Is at h0 h5
  obtain ⟨x0, rfl, w0⟩ := h0
  obtain ⟨x5, rfl, w5⟩ := h5
  have w0 := wf_u8 w0
  have w5 := wf_u8 w5
  have hf : Fresh s := hf
  obtain ⟨ks, hk, hk0⟩ := isU_of h1
  obtain ⟨bs, hb, hb0⟩ := isU_of h2
  obtain ⟨dd, hd⟩ := isB_of h3
  obtain ⟨odd, hodd⟩ := isB_of h4
  obtain ⟨hh, e0, hh4⟩ := tmod_nat (k := 4) w0.1 (by omega)
  have e0 : x0.tmod 4 = (hh : Int) := e0
  obtain ⟨lv, dv, s1, q1, hA, m1, f1⟩ := make_r (h := hh) (by omega) hk hb hd (fun b hb' => (hb0 b hb').1) hf
  have hod := hodd.more m1 hf
  have ec0 : IntKind.i64.wrap x0 = x0 := wrap64 (by omega) (by omega)
  have ec5 : IntKind.i64.wrap x5 = x5 := wrap64 (by omega) (by omega)
  have e4n : (4 : Int) ≠ 0 := by decide
  generalize mkD ks dd = ds at *
  generalize mkW hh ks bs dd = W at *
  have n20 := hA.n20
  have h32 := hA.ok.h32
  -- head, peers, tail in one row
  have hd1 := rhead_r W.h s1
  obtain ⟨sA, hsA⟩ : ∃ sA, sA = s1.new (.row 5 [(headR W.h).cs] false) := ⟨_, rfl⟩
  have uA : Ful s1.n sA 5 (.slice (some ⟨s1.n, 0, some 0⟩) 1 2) [(headR W.h).cs] := by subst hsA; exact ful_one (Nat.le_refl _)
  have mA : More s1 sA := by subst hsA; exact .new
  have fA := mA.fresh f1
  obtain ⟨v2, s2, p1, p2, p3, p4⟩ : ∃ v2 s2, app sA 5 40 (.slice (some ⟨s1.n, 0, some 0⟩) 1 2) lv = some (v2, s2) ∧ More s1 s2 ∧ Fresh s2 ∧ Ful s1.n s2 5 v2 ((headR W.h).cs :: W.L.map Rf.cs) := by
    have hl1 := hA.l.more mA f1
    have gA : sA.get s1.n = some (.row 5 [(headR W.h).cs] false) := by subst hsA; exact get_new_same
    have q1 := hl1.lenV
    have q2 := hl1.rowsOf
    by_cases z : (W.L.map Rf.cs).length = 0
    · have e : W.L.map Rf.cs = [] := List.eq_nil_of_length_eq_zero z
      refine ⟨.slice (some ⟨s1.n, 0, some 0⟩) 1 2, sA.put s1.n (.row 5 [(headR W.h).cs] false), ?_, mA.put (Nat.le_refl _), fA.put, .inr ⟨s1.n, 2, Nat.le_refl _, by rw [e]; rfl, by rw [e]; exact get_put_same gA, .inr (by rw [e]; rfl)⟩⟩
      rw [e] at q1 q2
      unfold app
      rw [q1]
      simp only [List.length_nil] at q2
      simp [q2, gA]
    · have a1 := app_full (s := sA) (by_ := 40) (n := (W.L.map Rf.cs).length) (x := lv) (b := s1.n) (i := 0) (len := 1) (e := 2) q1 q2 gA (by simp) (by omega) (by omega) (by rw [List.length_map]; omega) (by rw [List.length_map]; omega)
      simp only [List.drop_zero, List.take_succ_cons, List.take_zero, List.singleton_append] at a1
      refine ⟨_, _, a1, mA.trans .new, fA.new, .inr ⟨_, 1, mA.n, ?_, get_new_same, .inl rfl⟩⟩
      rw [List.length_cons, Nat.add_comm]
  have ht := rtail_r W.h s2
  obtain ⟨v3, s3, r1, r2, r3, r4, r5⟩ := push (s0 := s1) p3 p4 p2 (by_ := 40) (tailR W.h).cs (by rw [List.length_cons, List.length_map]; omega) (by rw [List.length_cons, List.length_map]; omega)
  obtain ⟨all, hall⟩ : ∃ all, all = headR W.h :: (W.L ++ [tailR W.h]) := ⟨_, rfl⟩
  have i3 : IsR s3 5 v3 (all.map Rf.cs) := by
    have := r3.isR
    rw [hall]
    simpa using this
  have hal : all.length = W.L.length + 2 := by rw [hall]; simp
  obtain ⟨kk, ek, hkk⟩ := tmod_nat (a := x5) (k := all.length) w5.1 (by omega)
  have hnz : ((all.length : Nat) : Int) ≠ 0 := by omega
  have hlen := i3.len
  rw [List.length_map] at hlen
  obtain ⟨me, hme⟩ := get_some hkk
  obtain ⟨rows, ro, j1, j2, j3⟩ := i3.atB (cs_get hme)
  have hmem := List.mem_of_getElem? hme
  obtain ⟨n, b, hk1, hn, hb1, hln, hbt⟩ : ∃ n b : Nat, okK me.rk me.n ∧ n ≤ 32 ∧ b < 2 ^ n ∧ me.ln = n ∧ me.bt = b := by
    rw [hall] at hmem
    simp only [List.mem_cons, List.mem_append, List.not_mem_nil, or_false] at hmem
    rcases hmem with rfl | g | rfl
    · exact ⟨W.h, 0, .inr ⟨.inl rfl, rfl⟩, h32, Nat.two_pow_pos _, rfl, rfl⟩
    · obtain ⟨v1, v2, v3⟩ := hA.ok.vec me g
      exact ⟨W.h, me.bt.toNat, .inl (hA.ok.rk me g), h32, by omega, v1, by omega⟩
    · exact ⟨W.h, 0, .inr ⟨.inr rfl, rfl⟩, h32, Nat.two_pow_pos _, rfl, rfl⟩
  obtain ⟨r26, s26, s27, s28, s31, Q, s', t1, t2, t3, t4, t5, t6, t7⟩ := tail_v (hA.more r2 f1) (hod.more r2 f1) r4 hk1 hn hb1 hln hbt
  have aw := awake_r s
  show ∃ s', leapfroglaw19x_ProbeFinds.v (.int .u8 x0) a1 a2 a3 a4 (.int .u8 x5) s = some (.bool true, s')
  refine ⟨s', ?_⟩
  simp only [headR] at hd1 hsA
  simp only [tailR] at ht r1
  subst hsA
  have q0 : eqb [3] false false (PU Q) (.pointer none) = some (.bool false) := rfl
  have t0 : alv s3 (.agg ⟨[.int .i64 0, .int .i64 0, .int .u64 0, .int .i64 0, .int .u64 0, .slice none 0 0]⟩) = some (PU s3.n, s3.new (.row 6 [[.int .i64 0, .int .i64 0, .int .u64 0, .int .i64 0, .int .u64 0, .slice none 0 0]] false)) := rfl

  simp only [leapfroglaw19x_ProbeFinds.v, leapfroglaw19x_ProbeFinds.t, leapfroglaw19x_ProbeFinds.t.p2, sy, reduceIte, Nat.reduceAdd, Nat.reduceLeDiff, Nat.reduceLT, Nat.reduceEqDiff, Int.reduceEq, Int.reduceLT, Int.reduceLE, Int.reduceNe, ly, aw, ec0, e0, bin_rem e4n, q1, hd1, als_eq, p1, ht, r1, ec5, hlen, bin_rem hnz, ek, j1, lda_row j2, j3, t0, t1, t2, t3, t4, t5, t6, q0, t7]
end ProbeFinds
end Go.Proofs.Ytogcfnhbacglfaa
