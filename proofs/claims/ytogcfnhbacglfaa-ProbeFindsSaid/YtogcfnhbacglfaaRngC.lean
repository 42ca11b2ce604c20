/-
  An iterator's loop, against the model's.
-/
import Derived.Test.YtogcfnhbacglfaaRngB
set_option linter.unusedSimpArgs false
set_option linter.unusedVariables false
namespace Go.Sim
open Go.RowKit (Below)

section
variable {P : Program} {C : Ctx} {an : An} {φ0 φ φ' φb : Phi} {ψ : Nat → Option Nat} {s0 s s' sb : St} {w0 w w' wb : World} {fr fr' : Fr} {a g : Act} {ops : Array Oper}

theorem yld_val {l : Nat} {u : Value} (h : VRel φ (.func (.yield l) ⟨[]⟩ ⟨[]⟩) u) : u = .func (.yield l) #[] #[] := by
  cases h with
  | func fn h1 h2 => cases h1; cases h2; rfl
theorem vrel_bool {b : Bool} {u : Value} (h : VRel φ (.bool b) u) : u = .bool b := by cases h; rfl
theorem Here.one {e : List (Nat × Ent)} {t : Nat} {v : Value} (h : Here an φ s w e a) (hl : lookE e t = some (.val v)) : Here an φ s w [(t, .val v)] a := by
  refine inv_fresh h.step.rel h.size h.defers fun t' x hx => ?_
  simp only [lookE] at hx
  split at hx
  · rename_i ht
    cases hx
    obtain ⟨h1, h2⟩ := h.env hl
    exact ⟨v, rfl, by rw [ht]; exact h1, by rw [ht]; exact h2⟩
  · cases hx
theorem it_loop (hC : CtxOk P C) (hm : P.follows .mixedOrders = true) (c : ItC) {ls ms : List Nat} {k15 : Nat} (T : ItT c an ls ms k15)
    (d1 : drawsOk an c.R1 = true) (dX : drawsOk an c.X = true) (d2 : drawsOk an c.R2 = true) (dZ : drawsOk an c.Z = true) (d4 : drawsOk an c.R4 = true) (hN : an.D = [])
    {p : List Value → St → Option (Nat × List Value × St)} {q : List Value → St → Option (List Value × St)}
    (hp : ∀ ys s r, p ys s = some r → itP std P C an c.R1 c.X c.R2 c.ops c.A c.i0 ls ms ys s = some r ∧ (r.1 ≠ 1 → r.2.1[0]? = ys[0]?))
    (hq : ∀ zs s r, q zs s = some r → itQ std P C an c.ops c.b2 c.Z c.R4 ls ms T.t19 zs s = some r ∧ r.1[0]? = zs[0]?)
    {l b : Nat} {s2 s5 : St} {Tt : Phi → World → Prop} {Q : Exit → Act → World → Prop}
    (hdone : b = 1 → ∀ φ' a' w', Step φb sb wb φ' s2 w' → a'.defers = [] → Q (.exit c.i0) a' w')
    (hyield : b = 2 → ∀ φ' w' v, Step φb sb wb φ' s2 w' → ∃ rf tmps assign body, (Instr.yield l #[v]).run P w' = .ok (.round l rf tmps assign body) w' ∧ RoundIn Fence.wide 0 P l rf tmps assign body w' (fun e w'' => e = .returned (.bool false) ∧ ∃ φ'', φ'.le φ'' ∧ Rel φ'' s5 w'' ∧ Tt φ'' w''))
    (htl : b = 2 → itT std P C an c.ops c.b1 c.b2 c.Z T.t15 T.t18 s5 = some s5)
    (hret : b = 2 → ∀ φ'' w φ3 a3 w3, Tt φ'' w → Rel φ'' s5 w → Step φ'' s5 w φ3 s5 w3 → a3.defers = [] → Q .ret a3 w3)
    {n : Nat} {ys : List Value} (hst : Step φb sb wb φ s w) (hy0 : ys[0]? = some (.func (.yield l) ⟨[]⟩ ⟨[]⟩)) (hh : Here an φ s w (frV ls ys) a) (hit : iter (itF p q k15) n ys s = some (b, s2)) :
    (Code.loop c.body).wp P Q a w := by
  refine wp_loop_down (fun n a w => ∃ φ s ys, Step φb sb wb φ s w ∧ ys[0]? = some (.func (.yield l) ⟨[]⟩ ⟨[]⟩) ∧ Here an φ s w (frV ls ys) a ∧ iter (itF p q k15) n ys s = some (b, s2)) n ⟨φ, s, ys, hst, hy0, hh, hit⟩ ?_ ?_
  · rintro a w ⟨φ, s, ys, _, _, _, h⟩
    simp [iter] at h
  clear hst hy0 hh hit
  rintro n a w ⟨φ, s, ys, hst, hy0, hh, hit⟩
  rw [iter_succ] at hit
  unfold itF at hit
  obtain ⟨r, hpr, hit⟩ := Option.bind_eq_some_iff.1 hit
  obtain ⟨hev, hp0⟩ := hp _ _ _ hpr
  unfold itP at hev
  unfold ItC.body
  refine wp_seq (code_here hC hm c.R1 d1 hh hev (fun _ _ _ => rfl) ?_)
  intro e1 φ1 ψ1 s1 fr1 a1 w1 hpe i1 hk
  cases e1 with
  | exit i => cases hk
  | ret => cases hk
  | pan v => cases hpe
  | normal =>
  refine wp_seq (evC_sound hC hm c.X dX i1 hk (fun φ' ψ' s' fr' a' w' x u _ _ hk => by cases hk) ?_)
  intro e2 φ2 ψ2 s2' fr2 a2 w2 hpe i2 hk
  cases e2 with
  | ret => cases hk
  | pan v => cases hpe
  | exit i =>
    simp only at hk
    split at hk
    · rename_i hi
      subst hi
      cases hk
      simp only [Option.some.injEq, Prod.mk.injEq] at hit
      obtain ⟨rfl, rfl⟩ := hit
      exact hdone rfl _ _ _ (hst.trans i2.step) (by rw [i2.defers]; exact hN)
    · cases hk
  | normal =>
  refine wp_seq (wp_block (wp_seq (evC_sound hC hm c.R2 d2 i2 hk (fun φ' ψ' s' fr' a' w' x u _ _ hk => by cases hk) ?_)))
  intro e3 φ3 ψ3 s3 fr3 a3 w3 hpe i3 hk
  cases e3 with
  | exit i => cases hk
  | ret => cases hk
  | pan v => cases hpe
  | normal =>
  obtain ⟨e3, l3, g3⟩ := fr3
  simp only at hk
  refine wp_seq (wpIn_wide.1 (wpIn_region_list (n := 0) ?_))
  rw [T.all]
  obtain ⟨r1, zs, s4⟩ := r
  obtain ⟨wr, hwr⟩ : ∃ wr, wr = w := ⟨_, rfl⟩
  refine list_in (Q' := fun e a w => e = .normal ∧ ∃ φ4, Step φ s wr φ4 s4 w ∧ Here an φ4 s4 w (frV ms zs) a ∧ r1 = 0) (fun e a w h => h.1) c.A _ (evOps_sound hC falls_none c.A (i3.noG) hk ?_) ?_
  · intro φ4 ψ4 s4' fr4 a4 w4 i4 hk
    cases hg : getV fr4 ms with
    | none => rw [hg] at hk; cases hk
    | some zs' =>
      rw [hg] at hk
      cases hk
      rw [hwr]
      exact ⟨rfl, φ4, i4.step, .of i4 hg, rfl⟩
  rintro a4 w4 ⟨_, φ4, st4, h4, rfl⟩
  rw [hwr] at st4
  clear hwr wr hk i3 i2 i1 hev
  have hz0 : zs[0]? = some (.func (.yield l) ⟨[]⟩ ⟨[]⟩) := (hp0 (by simp)).trans hy0
  simp only at hit
  cases hzk : zs[k15]? with
  | none => rw [hzk] at hit; simp at hit
  | some v15 =>
  rw [hzk] at hit
  have e15 : lookE (frV ms zs) T.t15 = some (.val v15) := frV_get T.n15 T.f15 hzk
  obtain ⟨k1, k2⟩ := h4.env e15
  obtain ⟨ty1, po1, af1, hm1⟩ := T.hm1
  obtain ⟨ty2, po2, af2, hm2⟩ := T.hm2
  obtain ⟨aty, ty3, po3, af3, hy⟩ := T.hy
  obtain ⟨op4, ty4, po4, af4, hb1⟩ := T.hb1
  have gm1 : c.m1.guard = some (T.g0, true) := by rw [hm1]
  have gm2 : c.m2.guard = some (T.g0, true) := by rw [hm2]
  have gy : c.y.guard = some (T.g0, true) := by rw [hy]
  have gb1 : c.b1.guard = some (T.g0, true) := by rw [hb1]
  have dm1 : c.m1.dst = some T.t16 := by rw [hm1]
  have dm2 : c.m2.dst = some T.t17 := by rw [hm2]
  have dy : c.y.dst = some T.t18 := by rw [hy]
  have db1 : c.b1.dst = some T.t19 := by rw [hb1]
  have y15 : ∀ {b : Bool} {a : Act}, T.t15 < a.tmps.size → a.tmps.getD T.t15 undef = .bool b → yielded c.ops a.tmps T.g0 = some b := fun h1 h2 => yld_at T.g h1 h2
  split at hit
  · -- yield is called
    rename_i hv
    simp only [Option.some.injEq] at hv
    subst hv
    simp only [Option.some.injEq, Prod.mk.injEq] at hit
    obtain ⟨rfl, rfl⟩ := hit
    have b15 : a4.tmps.getD T.t15 undef = .bool true := vrel_bool k2
    obtain ⟨n1, n2, n3, n4, n5⟩ := T.ne
    have hO := h4.one e15
    have k0 : a4.tmps.getD T.t0 undef = .func (.yield l) #[] #[] := by
      have e0 : lookE (frV ms zs) T.t0 = some (.val (.func (.yield l) ⟨[]⟩ ⟨[]⟩)) := frV_get T.n0 (fun j hj => by omega) hz0
      exact yld_val (h4.env e0).2
    unfold wpListIn
    rw [if_pos (is_wanted (y15 k1 b15) gm1)]
    refine op_in (by rw [hm1]; simp) (fun _ _ => trivial) (u := .func (.yield l) #[] #[]) (by rw [hm1]; simp [Gives, execOp, Act.eval, k0]) ?_
    rw [dm1]
    have lt16 : T.t16 < a4.tmps.size := by rw [h4.size]; exact T.lt.2.1
    have h16 : (a4.put (some T.t16) (.func (.yield l) #[] #[])).tmps.getD T.t16 undef = .func (.yield l) #[] #[] := getD_put_same lt16
    have hO5 := hO.skip (t := T.t16) (u := .func (.yield l) #[] #[]) (by simp [lookE, n3])
    have b15' : (a4.put (some T.t16) (.func (.yield l) #[] #[])).tmps.getD T.t15 undef = .bool true := (getD_put_other (Ne.symm n3)).trans b15
    have k1' : T.t15 < (a4.put (some T.t16) (.func (.yield l) #[] #[])).tmps.size := by simpa using k1
    generalize a4.put (some T.t16) (.func (.yield l) #[] #[]) = a5 at *
    unfold wpListIn
    rw [if_pos (is_wanted (y15 k1' b15') gm2)]
    refine op_in (by rw [hm2]; simp) (fun _ _ => trivial) (u := a5.eval (.tmp T.t3)) (by rw [hm2]; simp [Gives, execOp]) ?_
    rw [dm2]
    generalize a5.eval (.tmp T.t3) = v3
    have lt17 : T.t17 < a5.tmps.size := by rw [hO5.size]; exact T.lt.2.2.1
    have h17 : (a5.put (some T.t17) v3).tmps.getD T.t17 undef = v3 := getD_put_same lt17
    have h16' : (a5.put (some T.t17) v3).tmps.getD T.t16 undef = .func (.yield l) #[] #[] := (getD_put_other n2).trans h16
    have hO6 := hO5.skip (t := T.t17) (u := v3) (by simp [lookE, n4])
    have b15'' : (a5.put (some T.t17) v3).tmps.getD T.t15 undef = .bool true := (getD_put_other (Ne.symm n4)).trans b15'
    have k1'' : T.t15 < (a5.put (some T.t17) v3).tmps.size := by simpa using k1'
    generalize a5.put (some T.t17) v3 = a6 at *
    unfold wpListIn
    rw [if_pos (is_wanted (y15 k1'' b15'') gy)]
    obtain ⟨rf, tmps, assign, body, hrun, hround⟩ := hyield rfl φ4 w4 v3 (hst.trans st4)
    refine ⟨fun _ _ => trivial, ?_⟩
    rw [show Fence.wide.round = none from rfl, Oper.semAt_none]
    have hrun' : (execOp a6.eval c.y).run P w4 = .ok (.round l rf tmps assign body) w4 := by
      rw [← hrun, hy]
      simp [execOp, resolve, Act.eval, h16', h17, Deferred.ofValue, invoke]
    rw [hrun', Oper.uponIn_round]
    refine ⟨wide_depth, hround.mono ?_⟩
    rintro e w5 ⟨rfl, φ5, hle, hrel, hT⟩
    rw [dy]
    have hO7 := (hO6.move hrel hle).put (t := T.t18) (v := .bool false) (u := .bool false) T.lt.2.2.2.1 (.bool _)
    have hk := htl rfl
    unfold itT at hk
    refine list_in (Q' := fun e a w => e = .normal ∧ ∃ φ6 ψ6 s6 fr6, InvA an φ5 s5 w5 φ6 ψ6 s6 fr6 a w ∧ evC std P C an c.Z St fr6 s6 (fun e _ s => match e with
      | .ret => some s
      | _ => none) = some s5) (fun e a w h => h.1) [c.b1, c.b2] [] (evOps_sound hC falls_none [c.b1, c.b2] (hO7.noG) hk ?_) ?_
    · intro φ6 ψ6 s6 fr6 a8 w8 i6 hk
      exact ⟨rfl, φ6, ψ6, s6, fr6, i6, hk⟩
    rintro a8 w8 ⟨_, φ6, ψ6, s6, fr6, i6, hk⟩
    show c.Z.wp P _ a8 w8
    refine evC_sound hC hm c.Z dZ i6 hk (fun φ' ψ' s' fr' a' w' x u _ _ hk => by cases hk) ?_
    intro e7 φ7 ψ7 s7 fr7 a9 w9 hpe i7 hk
    cases e7 with
    | exit i => cases hk
    | normal => cases hk
    | pan v => cases hpe
    | ret =>
    cases hk
    exact hret rfl φ5 w5 φ7 a9 w9 hT hrel i7.step (by rw [i7.defers]; exact hN)
  · -- it is not
    rename_i hv
    simp only [Option.some.injEq] at hv
    subst hv
    obtain ⟨⟨ys', s6⟩, hq1, hit⟩ := Option.bind_eq_some_iff.1 hit
    obtain ⟨hq2, hq0⟩ := hq _ _ _ hq1
    have b15 : a4.tmps.getD T.t15 undef = .bool false := vrel_bool k2
    obtain ⟨n1, n2, n3, n4, n5⟩ := T.ne
    unfold wpListIn
    rw [if_neg (not_wanted (y15 k1 b15) gm1)]
    refine ⟨fun _ _ => trivial, ?_⟩
    rw [dm1]
    have h5 := h4.skip (u := undef) (lookE_frV (ys := zs) T.m16)
    have b15' : (a4.put (some T.t16) undef).tmps.getD T.t15 undef = .bool false := (getD_put_other (Ne.symm n3)).trans b15
    have k1' : T.t15 < (a4.put (some T.t16) undef).tmps.size := by simpa using k1
    generalize a4.put (some T.t16) undef = a5 at *
    unfold wpListIn
    rw [if_neg (not_wanted (y15 k1' b15') gm2)]
    refine ⟨fun _ _ => trivial, ?_⟩
    rw [dm2]
    have h6 := h5.skip (u := undef) (lookE_frV (ys := zs) T.m17)
    have b15'' : (a5.put (some T.t17) undef).tmps.getD T.t15 undef = .bool false := (getD_put_other (Ne.symm n4)).trans b15'
    have k1'' : T.t15 < (a5.put (some T.t17) undef).tmps.size := by simpa using k1'
    generalize a5.put (some T.t17) undef = a6 at *
    unfold wpListIn
    rw [if_neg (not_wanted (y15 k1'' b15'') gy)]
    refine ⟨fun _ _ => trivial, ?_⟩
    rw [dy]
    have h7 := h6.skip (u := undef) (lookE_frV (ys := zs) T.m18)
    have b15_3 : (a6.put (some T.t18) undef).tmps.getD T.t15 undef = .bool false := (getD_put_other (Ne.symm n5)).trans b15''
    have k1_3 : T.t15 < (a6.put (some T.t18) undef).tmps.size := by simpa using k1''
    generalize a6.put (some T.t18) undef = a7 at *
    unfold wpListIn
    rw [if_neg (not_wanted (y15 k1_3 b15_3) gb1)]
    refine ⟨fun _ _ => trivial, ?_⟩
    rw [db1]
    have h8 := h7.put (t := T.t19) (v := undef) (u := undef) T.lt.2.2.2.2 (VRel.of_plain _ rfl)
    generalize a7.put (some T.t19) undef = a8 at *
    clear h7 h6 h5 b15 b15' b15'' b15_3 k1 k1' k1'' k1_3
    unfold itQ at hq2
    refine list_in (Q' := fun e a w => e = .normal ∧ ∃ φ5 ψ5 s5' fr5, InvA an φ4 s4 w4 φ5 ψ5 s5' fr5 a w ∧ evC std P C an c.Z (List Value × St) fr5 s5' (fun e fr s => match e with
      | .normal => evC std P C an c.R4 (List Value × St) fr s fun e fr s => match e with
        | .normal => match getV fr ls with
          | some ys => some (ys, s)
          | none => none
        | _ => none
      | _ => none) = some (ys', s6)) (fun e a w h => h.1) [c.b2] [] (evOps_sound hC falls_none [c.b2] (h8.noG) hq2 ?_) ?_
    · intro φ5 ψ5 s5' fr5 a9 w9 i5 hk
      exact ⟨rfl, φ5, ψ5, s5', fr5, i5, hk⟩
    rintro a9 w9 ⟨_, φ5, ψ5, s5', fr5, i5, hk⟩
    show c.Z.wp P _ a9 w9
    refine evC_sound hC hm c.Z dZ i5 hk (fun φ' ψ' s' fr' a' w' x u _ _ hk => by cases hk) ?_
    intro e6 φ6 ψ6 s6' fr6 a10 w10 hpe i6 hk
    cases e6 with
    | exit i => cases hk
    | ret => cases hk
    | pan v => cases hpe
    | normal =>
    show c.R4.wp P _ a10 w10
    refine evC_sound hC hm c.R4 d4 i6 hk (fun φ' ψ' s' fr' a' w' x u _ _ hk => by cases hk) ?_
    intro e7 φ7 ψ7 s7' fr7 a11 w11 hpe i7 hk
    cases e7 with
    | exit i => cases hk
    | ret => cases hk
    | pan v => cases hpe
    | normal =>
    simp only at hk
    cases hg : getV fr7 ls with
    | none => rw [hg] at hk; cases hk
    | some ys2 =>
      rw [hg] at hk
      cases hk
      exact ⟨φ7, _, _, (hst.trans st4).trans i7.step, hq0.trans hz0, .of i7 hg, hit⟩
  · cases hit
end
end Go.Sim
