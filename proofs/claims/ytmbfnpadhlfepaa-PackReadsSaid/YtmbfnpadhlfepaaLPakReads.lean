/-
  PackReads, over abstract values.
-/
import Derived.Test.YtmbfnpadhlfepaaPaqA
set_option linter.unusedSimpArgs false
set_option linter.unusedVariables false
set_option maxRecDepth 100000
set_option maxHeartbeats 4000000
namespace Go.Proofs.Ytmbfnpadhlfepaa
open Go.Sim Go.Sim.Bt
attribute [local congr] bdc cndc itec gdc gdSc gdUc
namespace PackReads

theorem law (s : St) (us : List Value) (ha : AllRo s) (hf : ∀ b, s.n ≤ b → s.get b = none) (h : Args s [(false, [.sl [.i .u8]]), (false, [.sl [.i .i64]])] us) : ∃ s', leapfroglaw03x_PackReads.w us s = some (.bool true, s') := by
  unfold Args Args Args Arg at h
  obtain ⟨a0, _, rfl, ha0, a1, _, rfl, ha1, rfl⟩ := h
  unfold Leaf.Are at ha0 ha1
  obtain ⟨_, _, e0, hl0, e1⟩ := ha0
  unfold Leaf.Are at e1
  subst e1
  simp only [List.cons.injEq, and_true] at e0
  subst e0
  obtain ⟨_, _, e0, hl1, e1⟩ := ha1
  unfold Leaf.Are at e1
  subst e1
  simp only [List.cons.injEq, and_true] at e0
  subst e0
  have hF : Fresh s := hf
  obtain ⟨n, hlen, hcut, hall⟩ := bytes_cut hl0
  obtain ⟨kv, ks, hkf, hkl, hk20⟩ := kinds_few hl1 hF (.refl s)
  -- the bytes looked at
  obtain ⟨bv, bs, hbv, hok, hbl, hpre⟩ : ∃ bv bs, Byt s bv (br bs) ∧ okY bs ∧ bs.length ≤ 700 ∧ ((lenL a0).bind fun x4 => (bin .gtr x4 (.int .i64 700)).bind fun x5 => cnd x5 ((slc s 1 a0 none (some (.int .i64 700)) none).bind fun x6 => (some (0, [x6, a1], s) : Option Cut)) (some (0, [a0, a1], s))) = some (0, [bv, a1], s) := by
    by_cases c : 700 < n
    · obtain ⟨w, bs, h1, h2, h3, h4⟩ := hcut c
      refine ⟨w, bs, h2, h3, by omega, ?_⟩
      have k : bin .gtr (.int .i64 (n : Int)) (.int .i64 700) = some (.bool true) := by rw [bin_gtr, decide_eq_true (by omega)]
      rw [hlen, bds, k, bds, cndt, h1, bds]
    · obtain ⟨bs, h2, h3, h4⟩ := hall c
      refine ⟨a0, bs, h2, h3, by omega, ?_⟩
      have k : bin .gtr (.int .i64 (n : Int)) (.int .i64 700) = some (.bool false) := by rw [bin_gtr, decide_eq_false (by omega)]
      rw [hlen, bds, k, bds, cndf]
  have hbP := hbv.pers hF
  have hlb := hbv.lenL
  rw [br_length] at hlb
  obtain ⟨v1, s1, fs1, p1, p2, p3, p4, p5⟩ := first_v hF hbP hok (by omega) hkl (by omega) (Nat.le_refl _) (Nat.le_refl _)
  have m1 := p2
  obtain ⟨v2, s2, fs2, q1, q2, q3, q4, q5⟩ := rfirst_v p3 (hbP.to m1.old) hok (by omega) (hkl.to m1.old) (by omega) m1.n m1.n
  have m2 := m1.trans q2
  obtain ⟨v3, s3, fs3, r1, r2, r3, r4, r5⟩ := (unpack_of hlb).1 (first_v q3 (hbP.to m2.old) hok (by omega) (hkl.to m2.old) (by omega) m2.n m2.n)
  have m3 := m2.trans r2
  obtain ⟨v4, s4, fs4, t1, t2, t3, t4, t5⟩ := (unpack_of hlb).2 (rfirst_v r3 (hbP.to m3.old) hok (by omega) (hkl.to m3.old) (by omega) m3.n m3.n)
  have f1 : FL s1.n s4 v1 fs1 := p4.to ((q2.trans r2).trans t2).old
  have f2 : FL s2.n s4 v2 fs2 := q4.to (r2.trans t2).old
  have f3 : FL s3.n s4 v3 fs3 := r4.to t2.old
  have hl1' : fs1.length ≤ 1000000 := by
    have := congrArg List.length p5
    rw [List.length_map] at this
    have := firstP_len bs ks
    omega
  have hl3' : fs3.length ≤ 1000000 := by
    have := congrArg List.length r5
    rw [List.length_map] at this
    have := unpackP_len bs ks
    omega
  have c1 := sameAll_r f1 f2 (p5.trans q5.symm) hl1'
  have c2 := sameAll_r f3 t4 (r5.trans t5.symm) hl3'
  have al : leapfroglaw03x_aliveC.r s4 = some (.bool true) := rfl
  have eqi : ∀ (a : Int), eqb [1] false false (.int .i64 a) (.int .i64 a) = some (.bool true) := fun b => by rw [eqb1]; simp
  refine ⟨s4, ?_⟩
  show leapfroglaw03x_PackReads.v _ _ s = _
  unfold leapfroglaw03x_PackReads.v leapfroglaw03x_PackReads.t
  simp only [std_bd, std_cnd, std_gd]
  rw [hpre]
  simp only [std_gd, bds, List.getD_cons_zero, List.getD_cons_succ, hkf, p1, q1, r1, t1, xtr_eq, List.getElem?_cons_zero, List.getElem?_cons_succ, c1, c2, eqi, gdtt, pikt, al]
end PackReads
end Go.Proofs.Ytmbfnpadhlfepaa
