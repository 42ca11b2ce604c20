/-
  Law 14's list: all its peers.
-/
import Derived.Test.YtkkgegocliobpaaPerM
import Derived.Test.YtkkgegocliobpaaMachO
set_option linter.unusedSimpArgs false
set_option linter.unusedVariables false
set_option maxRecDepth 100000
set_option maxHeartbeats 2000000
namespace Go.Proofs.Ytkkgegocliobpaa
open Go.Sim Go.Sim.Bt
attribute [local congr] bdc cndc itec gdc gdSc gdUc

abbrev PB (q : Pr × Nat) : List Value := [PP q.2]
theorem byt_keep {s s' : St} {v : Value} {l : List (List Value)} (h : Byt s v l) (hk : v ≠ .slice none 0 0 → ∀ k, s.get (blkOf v) = some k → s'.get (blkOf v) = some k) : Byt s' v l := by
  refine ⟨h.sl, h.len, ?_, h.ok⟩
  obtain ⟨a, m, c, rfl⟩ := h.sl
  have hr := h.rows
  unfold rowsOf at hr ⊢
  split at hr
  · rename_i b i len e heq
    cases heq
    have hk := hk (by simp)
    simp only [blkOf] at hk
    split at hr
    · rename_i hg
      rw [hk _ hg]
      exact hr
    · cases hr
  · exact hr
  · rename_i e; cases e
  · cases hr
/-- A slice of somebody else's grows. -/
theorem AtP.sep {p : Pr} {s s' : St} {b n0 : Nat} {v v' : Value} {rows : List (List Value)} (h : AtP p s b) (hv : Ful n0 s 1 v rows) (k : StpI [] v v' s s') (hs : p.vv ≠ .slice none 0 0 → ¬ own v (blkOf p.vv)) : AtP p s' b := by
  obtain ⟨vv, lv, g1, g2, g3⟩ := h.ex
  have k1 : StpK [1] s s' := hv.toK k
  refine ⟨⟨vv, lv, k1.row g1 (by simp), g2.stp k1 (by simp), ⟨byt_keep g3.b fun hn x hx => ?_, g3.e⟩⟩, h.n, h.ok, h.hm, h.hv⟩
  have e := g3.e
  subst e
  exact k.old _ _ hx (by simp) (hs hn)
/-- No value lies in the block of a slice. -/
def SpV (ps : List (Pr × Nat)) (v : Value) : Prop := ∀ (j : Nat) q, ps[j]? = some q → q.1.vv ≠ .slice none 0 0 → ¬ own v (blkOf q.1.vv)
theorem vv_lt {p : Pr} {s : St} {b : Nat} (h : AtP p s b) (f : Fresh s) (hn : p.vv ≠ .slice none 0 0) : blkOf p.vv < s.n := by
  obtain ⟨vv, lv, g1, g2, g3⟩ := h.ex
  have e := g3.e
  subst e
  obtain ⟨a, m, c, e⟩ := g3.b.sl
  have hr := g3.b.rows
  rw [e] at hr hn ⊢
  unfold rowsOf at hr
  split at hr
  · rename_i b' i len e' heq
    cases heq
    split at hr
    · rename_i hg; exact f.lt hg
    · cases hr
  · rename_i heq; cases heq; exact absurd rfl hn
  · rename_i e; cases e
  · cases hr
theorem WAt.sep {ps : List (Pr × Nat)} {s s' : St} {n0 : Nat} {v v' : Value} {rows : List (List Value)} (h : WAt ps s) (hv : Ful n0 s 1 v rows) (k : StpI [] v v' s s') (hs : SpV ps v) : WAt ps s' := ⟨fun j q hq => (h.p j q hq).sep hv k (hs j q hq), h.nd⟩
theorem pr14_vv (R : List Rf) (j : Nat) (vv : Value) : (pr14 R j vv).vv = vv := by unfold pr14; split <;> rfl
theorem peers14 {R : List Rf} (hR : OkR R) {rv : Value} {s0 s : St} (hr : IsR s0 5 rv (R.map Rf.cs)) (f0 : Fresh s0) (m0 : More s0 s) (f : Fresh s) :
    ∃ pv s' ps, iter (leapfroglaw14x_list.l16 std) BIG [rv, .slice none 0 0, .int .i64 ((0 : Nat) : Int), o91] s = some ((0, [rv, pv, o91], s') : Cut) ∧ More s0 s' ∧ Fresh s' ∧ Ful s0.n s' 1 pv (ps.map PB) ∧ WAt ps s' ∧ SpV ps pv ∧ ps.length = R.length ∧ ∀ (j : Nat) q, ps[j]? = some q → ∃ vv, q.1 = pr14 R j vv := by
  refine iter_rel (fun d xs s' => ∃ pv i ps, More s0 s' ∧ Fresh s' ∧ Ful s0.n s' 1 pv (ps.map PB) ∧ WAt ps s' ∧ SpV ps pv ∧ ps.length = i ∧ (∀ (j : Nat) q, ps[j]? = some q → ∃ vv, q.1 = pr14 R j vv) ∧ i + d = R.length ∧ xs = [rv, pv, .int .i64 (i : Int), o91])
    (fun y : Option Cut => ∃ pv s' ps, y = some ((0, [rv, pv, o91], s') : Cut) ∧ More s0 s' ∧ Fresh s' ∧ Ful s0.n s' 1 pv (ps.map PB) ∧ WAt ps s' ∧ SpV ps pv ∧ ps.length = R.length ∧ ∀ (j : Nat) q, ps[j]? = some q → ∃ vv, q.1 = pr14 R j vv) ?_ BIG R.length _ s (by have := hR.len; unfold BIG; omega) ⟨_, 0, [], m0, f, .nil, .nil, fun j q h => by simp at h, rfl, fun j q h => by simp at h, by omega, rfl⟩
  rintro d xs s2 rec ⟨pv, i, ps, hm, hf, hp, hw, hs, hpl, hq, hi, rfl⟩ ih
  have hr2 := hr.more hm f0
  have hlen := hr2.len
  rw [List.length_map] at hlen
  have h900 := hR.len
  cases d with
  | zero =>
    have e1 : ¬ ((i : Int) < R.length) := by omega
    exact ⟨pv, s2, ps, by simp only [leapfroglaw14x_list.l16, sy, reduceIte, Nat.reduceAdd, Nat.reduceLeDiff, Nat.reduceLT, Nat.reduceEqDiff, Int.reduceEq, Int.reduceLT, Int.reduceLE, Int.reduceNe, ly, hlen, e1], hm, hf, hp, hw, hs, by omega, hq⟩
  | succ d =>
    obtain ⟨r, hj⟩ := get_some (l := R) (j := i) (by omega)
    obtain ⟨b, s3, vv, hA, hvv, m3, f3, hb, e⟩ := round14 hR (pv := pv) hr2 hf hj
    have hp3 := hp.more m3 hf
    have hn0 : s0.n ≤ s3.n := (hm.trans m3).n
    obtain ⟨v', s4, p1, p2, p3, p4, p5⟩ := push f3 hp3 (hm.trans m3) (by_ := 8) [PP b] (by rw [List.length_map]; omega) (by rw [List.length_map]; omega)
    obtain ⟨v2, s5, q1, q2, q3, q4, q5⟩ := pushI f3 hp3 hn0 (by_ := 8) [PP b] (by rw [List.length_map]; omega) (by rw [List.length_map]; omega)
    rw [p1] at q1
    cases q1
    have hw3 := hw.more m3 hf
    have hs3 : (pr14 R i vv).vv ≠ .slice none 0 0 → ¬ own pv (blkOf (pr14 R i vv).vv) := by
      rw [pr14_vv]
      intro hn ho
      rcases hvv with g | g
      · exact hn g
      · obtain ⟨y, hy⟩ := hp.has _ ho
        have := hf.lt hy
        omega
    have hw4 := hw3.sep hp3 q4 hs
    have hA4 := hA.sep hp3 q4 hs3
    have hps : WAt (ps ++ [(pr14 R i vv, b)]) s4 := WAt.push (s := s2) hw hf hw4 hb hA4
    rw [e, p1]
    simp only [bds]
    refine ih d _ _ (by omega) ⟨v', i + 1, ps ++ [(pr14 R i vv, b)], p2, p4, by rw [List.map_append]; exact p3, hps, fun j q hq' hn ho => ?_, by simp [hpl], fun j q hq' => ?_, by omega, rfl⟩
    · have := q5 _ ho
      have hlt : blkOf q.1.vv < s3.n := by
        by_cases hjl : j < ps.length
        · rw [List.getElem?_append_left hjl] at hq'
          exact vv_lt (hw3.p j q hq') f3 hn
        · rw [List.getElem?_append_right (by omega)] at hq'
          have h0 : j - ps.length = 0 := by
            have := (List.getElem?_eq_some_iff.1 hq').1
            simp at this; omega
          rw [h0] at hq'
          simp only [List.getElem?_cons_zero, Option.some.injEq] at hq'
          subst hq'
          exact vv_lt hA f3 hn
      omega
    · by_cases hjl : j < ps.length
      · rw [List.getElem?_append_left hjl] at hq'
        exact hq j q hq'
      · rw [List.getElem?_append_right (by omega)] at hq'
        have h0 : j - ps.length = 0 := by
          have := (List.getElem?_eq_some_iff.1 hq').1
          simp at this; omega
        rw [h0] at hq'
        simp only [List.getElem?_cons_zero, Option.some.injEq] at hq'
        subst hq'
        have : j = i := by omega
        subst this
        exact ⟨vv, rfl⟩
end Go.Proofs.Ytkkgegocliobpaa
