/-
  Law 13's peers of a list are made.
-/
import Derived.Test.YteiagjbjokldgaaPesG
import Derived.Test.YteiagjbjokldgaaPesE
set_option linter.unusedSimpArgs false
set_option linter.unusedVariables false
set_option maxRecDepth 100000
set_option maxHeartbeats 4000000
namespace Go.Proofs.Yteiagjbjokldgaa
open Go.Sim Go.Sim.Bt
attribute [local congr] bdc cndc itec gdc gdSc gdUc

theorem ok_ref {h wl wb : Int} {R : List Rf} (hR : OkRw h wl wb R) {j : Nat} {r : Rf} (hr : R[j]? = some r) : okRef r := by
  have hjl : j < R.length := (List.getElem?_eq_some_iff.1 hr).1
  have oh : okV h 0 := ⟨h.toNat, 0, by have := hR.h0; omega, rfl, by have := hR.h0; have := hR.h1; omega, Nat.two_pow_pos _⟩
  by_cases h0 : j = 0
  · subst h0; rw [hR.first] at hr; cases hr; exact ⟨.inr ⟨.inl rfl, rfl⟩, oh⟩
  · by_cases h1 : j + 1 < R.length
    · obtain ⟨q1, q2, q3, _⟩ := hR.inner j r (by omega) h1 hr
      exact ⟨.inl q1, q3⟩
    · have := hR.last
      rw [show R.length - 1 = j by omega, hr] at this
      cases this
      exact ⟨.inr ⟨.inr rfl, rfl⟩, oh⟩
theorem up_at {h wl wb : Int} {R : List Rf} (hR : OkRw h wl wb R) {i j : Nat} {a b : Rf} (hij : i < j) (ha : R[i]? = some a) (hb : R[j]? = some b) : ltF a b := by
  obtain ⟨i1, i2⟩ := List.getElem?_eq_some_iff.1 ha
  obtain ⟨j1, j2⟩ := List.getElem?_eq_some_iff.1 hb
  have := List.pairwise_iff_getElem.1 hR.up i j i1 j1 hij
  rwa [i2, j2] at this
abbrev xrow (wl wb : Int) (rv pv : Value) : List Value := [.int .i64 wl, .int .u64 wb, rv, pv]
/-- A list of peers that is being made. -/
structure Mk (wl wb : Int) (rv : Value) (Xb : Nat) (s0 s : St) (pv : Value) (ps : List (Pr × Nat)) : Prop where
  m : More s0 s
  f : Fresh s
  x0 : s0.n ≤ Xb
  x : s.get Xb = some (.row 4 [xrow wl wb rv pv] false)
  p : Ful s0.n s 1 pv (ps.map PB)
  w : WAt ps s
  sp : SpV ps pv
theorem Mk.add {wl wb : Int} {rv pv : Value} {Xb : Nat} {s0 s s1 : St} {ps : List (Pr × Nat)} {p : Pr} {b : Nat} (M : Mk wl wb rv Xb s0 s pv ps) (A : AtP p s1 b) (m1 : More s s1) (f1 : Fresh s1) (hb : s.n ≤ b) (hvv : p.vv = .slice none 0 0 ∨ s.n ≤ blkOf p.vv) (hl : ps.length ≤ 2000) :
    ∃ pv' s2 s3, ldc s1 (.pointer (some ⟨Xb, 0, some 3⟩)) = some pv ∧ app (s1.new (.row 1 [[PP b]] false)) 1 8 pv (.slice (some ⟨s1.n, 0, some 0⟩) 1 2) = some (pv', s2) ∧ stv s2 1 (.pointer (some ⟨Xb, 0, some 3⟩)) pv' = some s3 ∧
      Mk wl wb rv Xb s0 s3 pv' (ps ++ [(p, b)]) ∧ StpK [1, 4] s s3 := by
  have hp3 := M.p.more m1 M.f
  have hn0 : s0.n ≤ s1.n := (M.m.trans m1).n
  have x1 := m1.get M.f M.x
  obtain ⟨v', s4, p1, p2, p3, p4, p5⟩ := push f1 hp3 (M.m.trans m1) (by_ := 8) [PP b] (by rw [List.length_map]; omega) (by rw [List.length_map]; omega)
  obtain ⟨v2, s5, q1, q2, q3, q4, q5⟩ := pushI f1 hp3 hn0 (by_ := 8) [PP b] (by rw [List.length_map]; omega) (by rw [List.length_map]; omega)
  rw [p1] at q1
  cases q1
  have hw3 := M.w.more m1 M.f
  have hs3 : p.vv ≠ .slice none 0 0 → ¬ own pv (blkOf p.vv) := by
    intro hn ho
    rcases hvv with g | g
    · exact hn g
    · obtain ⟨y, hy⟩ := M.p.has _ ho
      have := M.f.lt hy
      omega
  have hw4 := hw3.sep hp3 q4 M.sp
  have hA4 := A.sep hp3 q4 hs3
  have hps : WAt (ps ++ [(p, b)]) s4 := WAt.push (s := s) M.w M.f hw4 hb hA4
  have x4 : s4.get Xb = some (.row 4 [xrow wl wb rv pv] false) := p5.row x1 (by simp)
  have hbx := p3.isR.bx
  have hst : stv s4 1 (.pointer (some ⟨Xb, 0, some 3⟩)) v' = some (s4.put Xb (.row 4 [xrow wl wb rv v'] false)) := by
    rw [stv_row x4, hbx]; rfl
  have k4 : StpK [4] s4 (s4.put Xb (.row 4 [xrow wl wb rv v'] false)) := .put x4 (by simp [kd])
  refine ⟨v', s4, _, by rw [ldc_row x1]; rfl, p1, hst, ⟨p2.put M.x0, p4.put, M.x0, get_put_same x4, ?_, ⟨fun j q hq => (hps.p j q hq).stp k4 (by simp) (by simp) (by simp), hps.nd⟩, fun j q hq' hn ho => ?_⟩, ((StpK.more m1 M.f).trans (p5.mono (by simp))).trans (k4.mono (by simp))⟩
  · rw [List.map_append]; exact p3.stp k4 (by simp)
  · have := q5 _ ho
    have hlt : blkOf q.1.vv < s1.n := by
      by_cases hjl : j < ps.length
      · rw [List.getElem?_append_left hjl] at hq'
        exact vv_lt (hw3.p j q hq') f1 hn
      · rw [List.getElem?_append_right (by omega)] at hq'
        have h0 : j - ps.length = 0 := by
          have := (List.getElem?_eq_some_iff.1 hq').1
          simp at this; omega
        rw [h0] at hq'
        simp only [List.getElem?_cons_zero, Option.some.injEq] at hq'
        subst hq'
        exact vv_lt A f1 hn
    omega
/-- One of them is asked. -/
theorem Mk.set {wl wb : Int} {rv pv : Value} {Xb : Nat} {s0 s s1 : St} {ps : List (Pr × Nat)} {p q : Pr} {b i : Nat} (M : Mk wl wb rv Xb s0 s pv ps) (hq : ps[i]? = some (p, b)) (k : StB b s s1) (A : AtP q s1 b) (hv : q.vv = p.vv) (hb : s0.n ≤ b) : Mk wl wb rv Xb s0 s1 pv (ps.set i (q, b)) := by
  have kk := stb_k (M.w.p i _ hq) k
  have hm : More s0 s1 := StB.new M.m k hb
  refine ⟨hm, k.fr M.f, M.x0, kk.row M.x (by simp), ?_, M.w.set hq k A, fun j y hy hn ho => ?_⟩
  · rw [map_set_pb hq]; exact M.p.stp kk (by simp)
  · rw [List.getElem?_set] at hy
    split at hy
    · rename_i e
      subst e
      split at hy
      · cases hy
        rw [hv] at hn ho
        exact M.sp _ _ hq hn ho
      · cases hy
    · exact M.sp j y hy hn ho
end Go.Proofs.Yteiagjbjokldgaa
