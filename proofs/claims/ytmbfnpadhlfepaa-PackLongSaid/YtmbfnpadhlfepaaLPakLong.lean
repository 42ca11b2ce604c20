/-
  PackLong, over abstract values.
-/
import Derived.Test.YtmbfnpadhlfepaaPaqD
set_option linter.unusedSimpArgs false
set_option linter.unusedVariables false
set_option maxRecDepth 100000
set_option maxHeartbeats 4000000
namespace Go.Proofs.Ytmbfnpadhlfepaa
open Go.Sim Go.Sim.Bt
attribute [local congr] bdc cndc itec gdc gdSc gdUc
namespace PackLong

theorem mks_z (n : Nat) (hn : n ≤ 100000000) (s : St) : mks s 1 1 [.int .u8 0] (.int .i64 (n : Int)) (.int .i64 (n : Int)) = some (.slice (some ⟨s.n, 0, some 0⟩) n (2 * n), s.new (.row 1 (br (List.replicate n 0)) false)) := by
  have e : br (List.replicate n 0) = List.replicate n [.int .u8 0] := by simp [br, u8]
  unfold mks
  simp only
  rw [if_pos ⟨by omega, by omega, by omega, by omega⟩, Int.toNat_natCast, als_eq, List.length_replicate, e]
theorem fd_ok {w : Value} : FdA ({ fd0 4 with b := w } : Fd) := ⟨by simp [fd0], by simp [fd0], by simp [fd0], by simp [fd0], by simp [fd0], by simp [fd0], by simp [fd0], by simp [fd0], by simp [fd0], by simp [fd0], by simp [fd0], by simp [fd0]⟩
theorem one_fl {s1 : St} {w : Value} {bs : List Int} (f1 : Fresh s1) (hw : Byt s1 w (br bs)) : FL (s1.new (.row 14 [({ fd0 4 with b := w } : Fd).cs] false)).n (s1.new (.row 14 [({ fd0 4 with b := w } : Fd).cs] false)) (.slice (some ⟨s1.n, 0, some 0⟩) 1 2) [({ fd0 4 with b := w }, bs)] := by
  have r2 : IsR (s1.new (.row 14 [({ fd0 4 with b := w } : Fd).cs] false)) 14 (.slice (some ⟨s1.n, 0, some 0⟩) 1 2) [({ fd0 4 with b := w } : Fd).cs] := (ful_one (n0 := 0) (Nat.zero_le _)).isR
  have m2 : More s1 (s1.new (.row 14 [({ fd0 4 with b := w } : Fd).cs] false)) := .new
  refine ⟨r2.pers (m2.fresh f1), fun p hp => ?_⟩
  cases List.mem_singleton.1 hp
  exact ⟨fd_ok, ((hw.pers f1).to m2.old).mono m2.n⟩
theorem FL.bb {n : Nat} {s : St} {v : Value} {fs : List FB} (h : FL n s v fs) {j : Nat} {p : FB} (hj : fs[j]? = some p) : ∃ q q', idx s 14 v (.int .i64 (j : Int)) = some q ∧ fld 4 q = some q' ∧ ldc s q' = some p.1.b := by
  obtain ⟨b, all, ro, h1, h2, h3⟩ := h.rows.here.at (j := j) (r := p.1.cs) (by rw [List.getElem?_map, hj]; rfl)
  exact ⟨_, _, h1, rfl, by rw [ldc_row h2, h3]; rfl⟩
theorem far (Z : List Int) : firstP ([129, 128, 4] ++ Z) [4] = ([], 2, 31) := by
  have h0 : ([129, 128, 4] ++ Z)[0]? = some ((129 : Nat) : Int) := rfl
  have h1 : ([129, 128, 4] ++ Z)[1]? = some ((128 : Nat) : Int) := rfl
  have h2 : ([129, 128, 4] ++ Z)[2]? = some ((4 : Nat) : Int) := rfl
  generalize [129, 128, 4] ++ Z = bs at *
  have e2 : numL bs 65536 8 2 1 2 = .bad 31 2 := by
    unfold numL
    rw [byteP_some h2, if_neg (by decide)]
  have e1 : numL bs 65536 9 1 1 1 = .bad 31 2 := by
    unfold numL
    rw [byteP_some h1, if_pos (by decide)]
    simp only []
    rw [if_neg (by omega)]
    exact e2
  have e0 : numP bs 65536 0 = .bad 31 2 := by
    unfold numP numL
    rw [byteP_some h0, if_pos (by decide)]
    simp only []
    rw [if_neg (by omega)]
    exact e1
  have ef : fieldP bs 4 0 = .bad 31 2 := by
    unfold fieldP
    rw [if_neg (by omega), if_neg (by omega), if_neg (by omega), if_pos rfl, e0]
  unfold firstP firstL
  rw [if_pos (by intro k hk; cases List.mem_singleton.1 hk; exact ⟨by omega, by omega⟩), ef]

theorem long (s : St) (hF : Fresh s) : ∃ s', leapfroglaw03x_PackLong.t.p2 std s = some (.bool true, s') := by
  obtain ⟨n, hn⟩ : ∃ n : Nat, n = 65536 := ⟨_, rfl⟩
  have K1 : (65536 : Int) = (n : Int) := by omega
  have K2 : (65537 : Int) = ((n + 1 : Nat) : Int) := by omega
  have oz : ∀ k, okY (List.replicate k 0) := fun k y hy => by
    rw [List.eq_of_mem_replicate hy]; omega
  -- as many as there may be
  have A1 := mks_z n (by omega) s
  have m1 : More s (s.new (.row 1 (br (List.replicate n 0)) false)) := .new
  have g1 : (s.new (.row 1 (br (List.replicate n 0)) false)).get s.n = some (.row 1 (br (List.replicate n 0)) false) := get_new_same
  generalize s.new (.row 1 (br (List.replicate n 0)) false) = s1 at *
  have f1 := m1.fresh hF
  have hw1 : Ful s.n s1 1 (.slice (some ⟨s.n, 0, some 0⟩) n (2 * n)) (br (List.replicate n 0)) := .inr ⟨s.n, 2 * n, Nat.le_refl _, by rw [br_length, List.length_replicate], g1, .inr (by rw [br_length, List.length_replicate])⟩
  obtain ⟨w1, hw⟩ : ∃ w1, w1 = Value.slice (some ⟨s.n, 0, some 0⟩) n (2 * n) := ⟨_, rfl⟩
  rw [← hw] at A1 hw1
  have hbx1 := hw1.isR.bx
  obtain ⟨f, hfd⟩ : ∃ f : Fd, f = { fd0 4 with b := w1 } := ⟨_, rfl⟩
  have B1 : bld [(.int .i64 0), (.int .u64 0), (.int .i64 0), (.bool false), (.slice none 0 0), (.int .i64 0), (.int .u64 0), (.int .i64 0), (.int .u64 0), (.int .i64 0), (.int .i64 0), (.int .u64 0), (.int .i64 0), (.int .u64 0)] [(0, 1, .int .i64 4), (4, 1, w1)] = some f.v := by
    rw [hfd]
    simp only [sy, reduceIte, Nat.reduceAdd, Nat.reduceLeDiff, Nat.reduceLT, Nat.reduceEqDiff, Int.reduceEq, Int.reduceLT, Int.reduceLE, Int.reduceNe, ly, hbx1, Fd.v, Fd.cs, fd0]
  have hz : bx (.agg #[(.int .i64 0), (.int .u64 0), (.int .i64 0), (.bool false), (.slice none 0 0), (.int .i64 0), (.int .u64 0), (.int .i64 0), (.int .u64 0), (.int .i64 0), (.int .i64 0), (.int .u64 0), (.int .i64 0), (.int .u64 0)]) = some [(.int .i64 0), (.int .u64 0), (.int .i64 0), (.bool false), (.slice none 0 0), (.int .i64 0), (.int .u64 0), (.int .i64 0), (.int .u64 0), (.int .i64 0), (.int .i64 0), (.int .u64 0), (.int .i64 0), (.int .u64 0)] := rfl
  have hst : ∀ (g : Fd) (a0 a1 a2 a3 a4 a5 a6 a7 a8 a9 a10 a11 a12 a13 : Value), stl [a0, a1, a2, a3, a4, a5, a6, a7, a8, a9, a10, a11, a12, a13] 0 14 g.v = some g.cs := fun _ _ _ _ _ _ _ _ _ _ _ _ _ _ _ => rfl
  have hal : ∀ g : Fd, lal g.cs 0 14 = some g.v := fun _ => rfl
  have als14 : ∀ (g : Fd) (t : St), ((bls 14 (List.replicate 1 [(.int .i64 0), (.int .u64 0), (.int .i64 0), (.bool false), (.slice none 0 0), (.int .i64 0), (.int .u64 0), (.int .i64 0), (.int .u64 0), (.int .i64 0), (.int .i64 0), (.int .u64 0), (.int .i64 0), (.int .u64 0)]) [(0, g.v)]).bind fun rows => als t 14 1 rows) = some (.slice (some ⟨t.n, 0, some 0⟩) 1 2, t.new (.row 14 [g.cs] false)) := fun _ _ => rfl
  have fl1 := one_fl f1 hw1.byt
  rw [← hfd] at fl1
  have m2 : More s1 (s1.new (.row 14 [f.cs] false)) := .new
  have C1 := als14 f s1
  generalize s1.new (.row 14 [f.cs] false) = s2 at *
  have f2 := m2.fresh f1
  have hfk : f.k = 4 := by rw [hfd]; rfl
  have hok : okP (f, List.replicate n 0) := by
    rw [hfd]
    exact okP_mk (by simp [fd0, isKd]) (by simp [sameP, onlyF, ownB, fd0]) (fun _ => by rw [List.length_replicate]; omega) (by simp [fd0]) (by simp [fd0]) (by simp [fd0])
  have hall : ∀ p ∈ [(f, List.replicate n 0)], FdA p.1 ∧ okP p ∧ okY p.2 := fun p hp => by
    cases List.mem_singleton.1 hp
    exact ⟨by rw [hfd]; exact fd_ok, hok, oz n⟩
  obtain ⟨x, s3, x1, m3, x3, f3⟩ := pack_v fl1 (Nat.le_refl _) (by simp) f2
  have oe : outE [(f, List.replicate n 0)] = 0 := by unfold outE; rw [if_pos fun p hp => (hall p hp).2.1]
  have ob : outB [(f, List.replicate n 0)] = wBs [(f, List.replicate n 0)] := by unfold outB; rw [if_pos fun p hp => (hall p hp).2.1]
  rw [oe] at x1
  rw [ob] at x3
  obtain ⟨o1, o2⟩ := okY_wBs hall
  have o2 : (wBs [(f, List.replicate n 0)]).length ≤ 65600 := by simpa using o2
  have als1 : ∀ t : St, ((bls 1 (List.replicate 1 [.int .i64 0]) [(0, .int .i64 4)]).bind fun rows => als t 1 1 rows) = some (.slice (some ⟨t.n, 0, some 0⟩) 1 2, t.new (.row 1 [[.int .i64 4]] false)) := fun _ => rfl
  have kl : ∀ t : St, Fresh t → KL (t.new (.row 1 [[.int .i64 4]] false)).n (t.new (.row 1 [[.int .i64 4]] false)) (.slice (some ⟨t.n, 0, some 0⟩) 1 2) [4] := fun t ft =>
    (ful_one (n0 := 0) (Nat.zero_le _) : Ful 0 (t.new (.row 1 [[.int .i64 4]] false)) 1 (.slice (some ⟨t.n, 0, some 0⟩) 1 2) [[.int .i64 4]]).isR.pers ft.new
  have C4 := als1 s3
  have m4 : More s3 (s3.new (.row 1 [[.int .i64 4]] false)) := .new
  have kl4 := kl s3 f3
  generalize s3.new (.row 1 [[.int .i64 4]] false) = s4 at *
  have f4 := m4.fresh f3
  have x4 := x3.more m4 f3
  have hlx := x4.byt.lenL
  rw [br_length] at hlx
  have hkl : KL s4.n s4 (.slice (some ⟨s3.n, 0, some 0⟩) 1 2) ([((f, List.replicate n 0) : FB)].map fun p => p.1.k) := by
    simp only [List.map_cons, List.map_nil, hfk]
    exact kl4
  obtain ⟨y, s5, fs, u1, m5, f5, u4, u5, _⟩ := (unpack_of hlx).1 (first_v (ks := [((f, List.replicate n 0) : FB)].map fun p => p.1.k) f4 (x4.byt.pers f4) o1 (by omega) hkl (by simp) (Nat.le_refl _) (Nat.le_refl _))
  rw [unpackP_w hall] at u1 u5
  have u1 : pack_Unpack.v x (.slice (some ⟨s3.n, 0, some 0⟩) 1 2) s4 = some (.tuple ⟨[y, .int .i64 0, .int .i64 0]⟩, s5) := u1
  obtain ⟨q, rfl, hq⟩ : ∃ q, fs = [q] ∧ q.2 = List.replicate n 0 := by
    match fs, u5 with
    | [q], u5 =>
      simp only [List.map_cons, List.map_nil, List.cons.injEq, and_true] at u5
      exact ⟨q, rfl, congrArg Prod.snd u5⟩
    | [], u5 => simp at u5
    | _ :: _ :: _, u5 => simp at u5
  -- one more
  have A6 := mks_z (n + 1) (by omega) s5
  have m6 : More s5 (s5.new (.row 1 (br (List.replicate (n + 1) 0)) false)) := .new
  have g6 : (s5.new (.row 1 (br (List.replicate (n + 1) 0)) false)).get s5.n = some (.row 1 (br (List.replicate (n + 1) 0)) false) := get_new_same
  generalize s5.new (.row 1 (br (List.replicate (n + 1) 0)) false) = s6 at *
  have f6 := m6.fresh f5
  have hw6 : Ful s5.n s6 1 (.slice (some ⟨s5.n, 0, some 0⟩) (n + 1) (2 * (n + 1))) (br (List.replicate (n + 1) 0)) := .inr ⟨s5.n, 2 * (n + 1), Nat.le_refl _, by rw [br_length, List.length_replicate], g6, .inr (by rw [br_length, List.length_replicate])⟩
  obtain ⟨w6, hw⟩ : ∃ w6, w6 = Value.slice (some ⟨s5.n, 0, some 0⟩) (n + 1) (2 * (n + 1)) := ⟨_, rfl⟩
  rw [← hw] at A6 hw6
  have hbx6 := hw6.isR.bx
  obtain ⟨f', hfd'⟩ : ∃ f : Fd, f = { fd0 4 with b := w6 } := ⟨_, rfl⟩
  have S6 : stl f.cs 4 1 w6 = some f'.cs := by
    rw [stl_eq, hbx6, hfd, hfd']; rfl
  have fl7 := one_fl f6 hw6.byt
  rw [← hfd'] at fl7
  have m7 : More s6 (s6.new (.row 14 [f'.cs] false)) := .new
  have C7 := als14 f' s6
  generalize s6.new (.row 14 [f'.cs] false) = s7 at *
  have f7 := m7.fresh f6
  obtain ⟨x', s8, y1, m8, y3, f8⟩ := pack_v fl7 (Nat.le_refl _) (by simp) f7
  have oe' : outE [(f', List.replicate (n + 1) 0)] = 30 := by
    unfold outE
    rw [if_neg]
    intro h
    have h4 := (h _ (List.mem_singleton.2 rfl)).2.2.1 (by rw [hfd']; rfl)
    rw [List.length_replicate] at h4
    omega
  rw [oe'] at y1
  have als3 : ((bls 1 (List.replicate 3 [.int .u8 0]) [(0, .int .u8 129), (1, .int .u8 128), (2, .int .u8 4)]).bind fun rows => als s8 1 3 rows) = some (.slice (some ⟨s8.n, 0, some 0⟩) 3 6, s8.new (.row 1 (br [129, 128, 4]) false)) := rfl
  have m9 : More s8 (s8.new (.row 1 (br [129, 128, 4]) false)) := .new
  have h9 : Ful s8.n (s8.new (.row 1 (br [129, 128, 4]) false)) 1 (.slice (some ⟨s8.n, 0, some 0⟩) 3 6) (br [129, 128, 4]) := .inr ⟨s8.n, 6, Nat.le_refl _, rfl, get_new_same, .inr rfl⟩
  generalize s8.new (.row 1 (br [129, 128, 4]) false) = s9 at *
  have f9 := m9.fresh f8
  have w9 : Ful s5.n s9 1 w6 (br (List.replicate (n + 1) 0)) := ((hw6.more m7 f6).more m8 f7).more m9 f8
  have L6 : lcl f'.cs 4 = some w6 := by rw [hfd']; rfl
  obtain ⟨v, s10, v1, m10, v3, f10⟩ := br_app (s0 := s8) f9 h9 w9 m9 (by rw [List.length_replicate]; simp; omega)
  have C10 := als1 s10
  have m11 : More s10 (s10.new (.row 1 [[.int .i64 4]] false)) := .new
  have kl11 := kl s10 f10
  generalize s10.new (.row 1 [[.int .i64 4]] false) = s11 at *
  have f11 := m11.fresh f10
  have v11 := v3.more m11 f10
  obtain ⟨z, s12, fs', t1, m12, f12, t4, t5, _⟩ := first_v (bs := [129, 128, 4] ++ List.replicate (n + 1) 0) f11 (v11.byt.pers f11) (okY_app (by intro y hy; simp at hy; omega) (oz (n + 1))) (by simp; omega) kl11 (by simp) (Nat.le_refl _) (Nat.le_refl _)
  rw [far] at t1
  have t1 : pack_First.v v (.slice (some ⟨s10.n, 0, some 0⟩) 1 2) s11 = some (.tuple ⟨[z, .int .i64 2, .int .i64 31]⟩, s12) := t1
  -- the end
  have k6 := m6.n
  have k7 := m7.n
  have k8 := m8.n
  have k10 := m10.n
  have k11 := m11.n
  have mm : More s5 s12 := ((((m6.trans m7).trans m8).trans m10).trans m11).trans m12
  have y12 : FL s5.n s12 y [q] := u4.to mm.old
  have hly := u4.len
  have hly : lenL y = some (.int .i64 1) := hly
  obtain ⟨c, c', i1, i2, i3⟩ := FL.bb y12 (j := 0) rfl
  have i1 : idx s12 14 y (.int .i64 0) = some c := i1
  have lq := (y12.mem (j := 0) rfl).2.here.lenL
  rw [br_length, hq, List.length_replicate] at lq
  have al : leapfroglaw03x_aliveC.r s12 = some (.bool true) := rfl
  have eqi : ∀ (a : Int), eqb [1] false false (.int .i64 a) (.int .i64 a) = some (.bool true) := fun b => by rw [eqb1]; simp
  refine ⟨s12, ?_⟩
  unfold leapfroglaw03x_PackLong.t.p2 leapfroglaw03x_PackLong.t.p1
  rw [K1, K2]
  simp only [std_bd, std_cnd, std_gd, A1, bds, B1, hz, hst, hal, C1, x1, xtr_eq, List.getElem?_cons_zero, List.getElem?_cons_succ, C4, u1, A6, S6, C7, y1, als3, L6, v1, C10, t1, eqi, gdtt, pikt, hly, i1, i2, i3, lq, al]
theorem law (s : St) (us : List Value) (ha : AllRo s) (hf : ∀ b, s.n ≤ b → s.get b = none) (h : Args s [(false, [.i .i64])] us) : ∃ s', leapfroglaw03x_PackLong.w us s = some (.bool true, s') := by
  simp only [Args, Arg, Leaf.Are, Leaf.Is] at h
  obtain ⟨_, _, rfl, ⟨_, _, h1, ⟨k, rfl, hk⟩, h2⟩, rfl⟩ := h
  subst h2
  simp only [List.cons.injEq, and_true] at h1
  subst h1
  by_cases hk1 : k = 1
  · subst hk1
    obtain ⟨s', h1⟩ := long s hf
    refine ⟨s', ?_⟩
    show leapfroglaw03x_PackLong.v _ s = _
    have e : eqb [1] false true (.int .i64 1) (.int .i64 1) = some (.bool false) := rfl
    unfold leapfroglaw03x_PackLong.v leapfroglaw03x_PackLong.t
    simp only [std_bd, std_cnd, e, bds, cndf]
    exact h1
  · refine ⟨s, ?_⟩
    show leapfroglaw03x_PackLong.v _ s = _
    have e : eqb [1] false true (.int .i64 k) (.int .i64 1) = some (.bool true) := by rw [neb1, decide_eq_true hk1]
    have al : leapfroglaw03x_aliveC.r s = some (.bool true) := rfl
    unfold leapfroglaw03x_PackLong.v leapfroglaw03x_PackLong.t
    simp only [std_bd, std_cnd, e, bds, cndt, al]
end PackLong
end Go.Proofs.Ytmbfnpadhlfepaa
