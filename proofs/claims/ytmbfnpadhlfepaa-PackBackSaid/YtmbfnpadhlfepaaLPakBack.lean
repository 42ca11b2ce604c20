/-
  PackBack, over abstract values.
-/
import Derived.Test.YtmbfnpadhlfepaaPaqD
set_option linter.unusedSimpArgs false
set_option linter.unusedVariables false
set_option maxRecDepth 100000
set_option maxHeartbeats 4000000
namespace Go.Proofs.Ytmbfnpadhlfepaa
open Go.Sim Go.Sim.Bt
attribute [local congr] bdc cndc itec gdc gdSc gdUc
namespace PackBack

theorem loop {n : Nat} {s0 : St} {v x1 x2 x3 : Value} {fs : List FB} (h : FL n s0 v fs) (hn : n ≤ s0.n) (hl : fs.length ≤ 20) : ∀ (d j : Nat), j + d = fs.length → ∀ {s : St} {w : Value}, Fresh s → More s0 s → Ful s0.n s 1 w (kr ((fs.take j).map fun p => p.1.k)) →
    ∃ w' s', (∀ e, iter (leapfroglaw03x_PackBack.l6 std) (e + d + 1) [v, x1, x2, x3, w, .int .i64 (j : Int)] s = some (0, [v, x1, x2, x3, w'], s')) ∧ More s0 s' ∧ Fresh s' ∧ Ful s0.n s' 1 w' (kr (fs.map fun p => p.1.k))
  | 0, j, hj, s, w, f, m, hw => by
    have : j = fs.length := by omega
    subst this
    rw [List.take_length] at hw
    refine ⟨w, s, fun e => ?_, m, f, hw⟩
    have hlen := (h.to fun x hx => m.old x (by omega)).len
    have lt1 : bin .lss (.int .i64 (fs.length : Int)) (.int .i64 (fs.length : Int)) = some (.bool false) := by
      rw [bin_lss, decide_eq_false (by omega)]
    rw [iter_succ]
    unfold leapfroglaw03x_PackBack.l6
    simp only [std_bd, std_cnd, List.getD_cons_zero, List.getD_cons_succ, hlen, lt1, bds, cnd]
  | d + 1, j, hj, s, w, f, m, hw => by
    have hs := h.to fun x hx => m.old x (by omega)
    have hlen := hs.len
    obtain ⟨p, hp⟩ := get_some (l := fs) (j := j) (by omega)
    obtain ⟨q, q1, q2, q3⟩ := hs.kd hp
    have lt0 : bin .lss (.int .i64 (j : Int)) (.int .i64 (fs.length : Int)) = some (.bool true) := by
      rw [bin_lss, decide_eq_true (by omega)]
    have add0 : bin .add (.int .i64 (j : Int)) (.int .i64 1) = some (.int .i64 ((j + 1 : Nat) : Int)) := by
      rw [bin_add, wrap64 (by omega) (by omega)]; rfl
    have hlk : (kr ((fs.take j).map fun p => p.1.k)).length ≤ 20 := by simp [kr]; omega
    obtain ⟨w', s', a1, a2, a3, a4, _⟩ := push f hw m (by_ := 8) [.int .i64 p.1.k] (by omega) (by omega)
    have e1 : (fs.take (j + 1)).map (fun p => p.1.k) = (fs.take j).map (fun p => p.1.k) ++ [p.1.k] := by
      rw [List.take_add_one, hp]; simp
    obtain ⟨w2, s2, g1, g2⟩ := loop (x1 := x1) (x2 := x2) (x3 := x3) h hn hl d (j + 1) (by omega) a4 a2 (by rw [e1, kr_snoc]; exact a3)
    refine ⟨w2, s2, fun e => ?_, g2⟩
    have g := g1 e
    have als1 : ((bls 1 (List.replicate 1 [.int .i64 0]) [(0, .int .i64 p.1.k)]).bind fun rows => als s 1 1 rows) = some (.slice (some ⟨s.n, 0, some 0⟩) 1 2, s.new (.row 1 [[.int .i64 p.1.k]] false)) := rfl
    rw [show e + (d + 1) + 1 = (e + d + 1) + 1 by omega, iter_succ]
    revert g
    generalize iter (leapfroglaw03x_PackBack.l6 std) (e + d + 1) = R
    intro g
    unfold leapfroglaw03x_PackBack.l6
    simp only [std_bd, std_cnd, List.getD_cons_zero, List.getD_cons_succ, hlen, lt0, q1, q2, q3, als1, a1, add0, bds, cnd]
    exact g

/-- Behind the first half: the bytes that are handed in. -/
theorem half {s s1 : St} {a1 kv : Value} {ks : List Int} (hF : Fresh s) (h1 : ValIs s a1) (hk : KL s.n s kv ks) (hks : ks.length ≤ 20) (m : More s s1) (f : Fresh s1) : ∃ s', leapfroglaw03x_PackBack.t.p1 std ((0, [a1, kv], s1) : Cut) = some (.bool true, s') := by
  obtain ⟨bv, bs, b1, b2, b3, b4, b5⟩ := bytes_pre h1 hF
  have pre := b5 [kv] s1 m
  have hbP := b1.pers hF
  obtain ⟨z, s2, fs, p1, p2, p3, p4, p5, _⟩ := first_v f (hbP.to m.old) b2 (by omega) (hk.to m.old) (by omega) m.n m.n
  have hlz := p4.len
  have m2 := m.trans p2
  have al : ∀ s, leapfroglaw03x_aliveC.r s = some (.bool true) := fun s => rfl
  by_cases he : (firstP bs ks).2.2 = 0
  · obtain ⟨e1, e2, e3⟩ := firstP_r b2 he
    have hok : ∀ p ∈ fs, okP p := fun p hp => by
      rw [← okP_clr]
      exact e1 _ (by rw [← p5]; exact List.mem_map_of_mem hp)
    have hwb : wBs fs = bs.take (firstP bs ks).2.1 := by rw [← wBs_clr, p5]; exact e3
    have hfl : fs.length ≤ 1000 := by
      have := congrArg List.length p5
      rw [List.length_map] at this
      have := firstP_len bs ks
      omega
    obtain ⟨w, s3, q1, q2, q3, q4⟩ := pack_v p4 (Nat.le_refl _) hfl p3
    have oe : outE fs = 0 := by unfold outE; rw [if_pos hok]
    have ob : outB fs = bs.take (firstP bs ks).2.1 := by unfold outB; rw [if_pos hok, hwb]
    rw [oe] at q1
    rw [ob] at q3
    have hb3 := (hbP.to (m2.trans q2).old).here
    have hl3 := hb3.lenL
    rw [br_length] at hl3
    obtain ⟨u, u1, u2, _⟩ := slc_take hb3 b4 e2
    have z1 := ful_b2s q3
    have z2 := byt_b2s u2
    refine ⟨s3, ?_⟩
    rw [he] at p1
    generalize (firstP bs ks).2.1 = n at *
    have k1 : bin .geq (.int .i64 (n : Int)) (.int .i64 0) = some (.bool true) := by rw [bin_geq, decide_eq_true (by omega)]
    have k2 : bin .leq (.int .i64 (n : Int)) (.int .i64 (bs.length : Int)) = some (.bool true) := by rw [bin_leq, decide_eq_true (by omega)]
    have e0 : eqb [1] false true (.int .i64 0) (.int .i64 0) = some (.bool false) := rfl
    have e0' : eqb [1] false false (.int .i64 0) (.int .i64 0) = some (.bool true) := rfl
    have eq2 : ∀ (b : ByteArray), eqb [2] false false (.string b) (.string b) = some (.bool true) := fun b => by rw [eqb2]; simp
    unfold leapfroglaw03x_PackBack.t.p1
    simp only [std_bd, std_cnd, std_gd, List.getD_cons_zero, List.getD_cons_succ]
    rw [pre]
    simp only [bds, List.getD_cons_zero, List.getD_cons_succ, p1, xtr_eq, List.getElem?_cons_zero, List.getElem?_cons_succ, e0, cndf, q1, e0', gdtt, pikt, k1, k2, hl3, u1, z1, z2, eq2, al]
  · have hnil := firstP_e he
    have : fs = [] := by
      have := congrArg List.length p5
      rw [hnil, List.length_map] at this
      exact List.eq_nil_of_length_eq_zero this
    subst this
    refine ⟨s2, ?_⟩
    generalize (firstP bs ks).2.1 = n at *
    generalize (firstP bs ks).2.2 = er at *
    have e0 : eqb [1] false true (.int .i64 er) (.int .i64 0) = some (.bool true) := by rw [neb1, decide_eq_true he]
    have hlz : lenL z = some (.int .i64 0) := hlz
    have e0' : eqb [1] false false (.int .i64 0) (.int .i64 0) = some (.bool true) := rfl
    unfold leapfroglaw03x_PackBack.t.p1
    simp only [std_bd, std_cnd, std_gd, List.getD_cons_zero, List.getD_cons_succ]
    rw [pre]
    simp only [bds, List.getD_cons_zero, List.getD_cons_succ, p1, xtr_eq, List.getElem?_cons_zero, List.getElem?_cons_succ, e0, cndt, hlz, e0', gdtt, pikt, al]
theorem law (s : St) (us : List Value) (ha : AllRo s) (hf : ∀ b, s.n ≤ b → s.get b = none) (h : Args s [(false, [.sl [.i .i64, .i .u64, .i .i64, .b, .sl [.i .u8], .i .i64, .i .u64, .i .i64, .i .u64, .i .i64, .i .i64, .i .u64, .i .i64, .i .u64]]), (false, [.sl [.i .u8]]), (false, [.sl [.i .i64]])] us) : ∃ s', leapfroglaw03x_PackBack.w us s = some (.bool true, s') := by
  unfold Args Args Args Args Arg at h
  obtain ⟨a0, _, rfl, ha0, a1, _, rfl, ha1, a2, _, rfl, ha2, rfl⟩ := h
  unfold Leaf.Are at ha0 ha1 ha2
  obtain ⟨_, _, e0, hl0, e1⟩ := ha0
  unfold Leaf.Are at e1
  subst e1
  simp only [List.cons.injEq, and_true] at e0
  subst e0
  obtain ⟨_, _, e0, hl1, e1⟩ := ha1
  unfold Leaf.Are at e1
  subst e1
  simp only [List.cons.injEq, and_true] at e0
  subst e0
  obtain ⟨_, _, e0, hl2, e1⟩ := ha2
  unfold Leaf.Are at e1
  subst e1
  simp only [List.cons.injEq, and_true] at e0
  subst e0
  have hF : Fresh s := hf
  obtain ⟨fs0, hfa⟩ := fields_arg hl0
  obtain ⟨v, s1, gs, g1, g2, g3, g4, g5, g6⟩ := few_v hF hfa
  obtain ⟨kv, ks, hkf, hkl, hk20⟩ := kinds_few hl2 hF g2
  obtain ⟨w, s2, p1, p2, p3, p4⟩ := pack_v g5 (Nat.le_refl _) (by omega) g3
  have m2 := g2.trans p2
  have e00 : eqb [1] false false (.int .i64 0) (.int .i64 0) = some (.bool true) := rfl
  have e30 : eqb [1] false false (.int .i64 30) (.int .i64 0) = some (.bool false) := rfl
  by_cases hok : ∀ p ∈ gs, okP p
  · have oe : outE gs = 0 := by unfold outE; rw [if_pos hok]
    have ob : outB gs = wBs gs := by unfold outB; rw [if_pos hok]
    rw [oe] at p1
    rw [ob] at p3
    have hall : ∀ p ∈ gs, FdA p.1 ∧ okP p ∧ okY p.2 := fun p hp => ⟨(g5.els p hp).1, hok p hp, g6 p hp⟩
    obtain ⟨o1, o2⟩ := okY_wBs hall
    have l2 : FL s1.n s2 v gs := g5.to p2.old
    obtain ⟨k, s3, c1, c2, c3, c4⟩ := loop (x1 := a1) (x2 := kv) (x3 := w) l2 p2.n (by omega) gs.length 0 (by omega) p4 (.refl _) (w := .slice none 0 0) (.inl ⟨rfl, rfl⟩)
    have c := c1 (BIG - gs.length - 1)
    rw [show BIG - gs.length - 1 + gs.length + 1 = BIG by unfold BIG; omega] at c
    have c : iter (leapfroglaw03x_PackBack.l6 std) BIG [v, a1, kv, w, .slice none 0 0, .int .i64 0] s2 = _ := c
    have hw3 : Ful s1.n s3 1 w (br (wBs gs)) := p3.more c2 p4
    have hlw := hw3.byt.lenL
    rw [br_length] at hlw
    have hkl3 : KL s3.n s3 k (gs.map fun p => p.1.k) := c4.isR.pers c3
    obtain ⟨y, s4, fs, u1, u2, u3, u4, u5, _⟩ := (unpack_of hlw).1 (first_v (ks := gs.map fun p => p.1.k) c3 (hw3.byt.pers c3) o1 (by omega) hkl3 (by simp; omega) (Nat.le_refl _) (Nat.le_refl _))
    rw [unpackP_w hall] at u1 u5
    have hfl : fs.length ≤ 1000000 := by
      have := congrArg List.length u5
      simp at this; omega
    have l4 : FL s1.n s4 v gs := l2.to fun x hx => by
      have := p2.n
      have := c2.n
      rw [u2.old x (by omega), c2.old x (by omega)]
    have cs := sameAll_r u4 l4 u5 hfl
    have m4 := (m2.trans c2).trans u2
    obtain ⟨s', hs'⟩ := half hF hl1 hkl hk20 m4 u3
    refine ⟨s', ?_⟩
    show leapfroglaw03x_PackBack.v _ _ _ s = _
    have e0 : eqb [1] false true (.int .i64 0) (.int .i64 0) = some (.bool false) := rfl
    have nt : un .not (.bool true) = some (.bool false) := rfl
    have u1 : pack_Unpack.v w k s3 = some (.tuple ⟨[y, .int .i64 0, .int .i64 0]⟩, s4) := u1
    unfold leapfroglaw03x_PackBack.v leapfroglaw03x_PackBack.t
    simp only [std_bd, std_cnd, std_gd, std_it, g1, hkf, p1, xtr_eq, List.getElem?_cons_zero, List.getElem?_cons_succ, e00, cndt, c, List.getD_cons_zero, List.getD_cons_succ, u1, e0, gdff, cs, nt, pikf, cndf, if_true, hs', bds]
  · have oe : outE gs = 30 := by unfold outE; rw [if_neg hok]
    rw [oe] at p1
    obtain ⟨s', hs'⟩ := half hF hl1 hkl hk20 m2 p4
    refine ⟨s', ?_⟩
    show leapfroglaw03x_PackBack.v _ _ _ s = _
    unfold leapfroglaw03x_PackBack.v leapfroglaw03x_PackBack.t
    simp only [std_bd, std_cnd, std_gd, std_it, g1, hkf, p1, xtr_eq, List.getElem?_cons_zero, List.getElem?_cons_succ, e30, cndf, List.getD_cons_zero, List.getD_cons_succ, if_true, hs', bds]
end PackBack
end Go.Proofs.Ytmbfnpadhlfepaa
