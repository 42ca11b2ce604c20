/-
  Law 14's list: its ends are told; what all its peers show.
-/
import Derived.Test.YtkkgegocliobpaaPerN
set_option linter.unusedSimpArgs false
set_option linter.unusedVariables false
set_option maxRecDepth 100000
set_option maxHeartbeats 2000000
namespace Go.Proofs.Ytkkgegocliobpaa
open Go.Sim Go.Sim.Bt
attribute [local congr] bdc cndc itec gdc gdSc gdUc

theorem stb_k {p : Pr} {s s' : St} {b : Nat} (h : AtP p s b) (k : StB b s s') : StpK [11] s s' := by
  obtain ⟨vv, lv, g1, _⟩ := h.ex
  exact k.toK g1
theorem pb_get {ps : List (Pr × Nat)} {j : Nat} {q : Pr × Nat} (h : ps[j]? = some q) : (ps.map PB)[j]? = some [PP q.2] := by rw [List.getElem?_map, h]; rfl
/-- What the peer at a place shows. -/
def rec14 (R : List Rf) (j : Nat) : Rc := ⟨0, 0, if j = 0 then zR else R.getD (j - 1) zR, R.getD (j + 1) zR, false, 0, 0⟩
/-- The two ends are told. -/
theorem ends14 {R : List Rf} (hR : OkR R) {rv pv : Value} {s : St} {ps : List (Pr × Nat)} (f : Fresh s) (hr : IsR s 5 rv (R.map Rf.cs)) (hp : IsR s 1 pv (ps.map PB)) (hw : WAt ps s) (hl : ps.length = R.length) (hq : ∀ (j : Nat) q, ps[j]? = some q → ∃ vv, q.1 = pr14 R j vv) :
    ∃ b0 b1 x1 xn w1 s1 w2 s2 w3 s3 w4 s4 ps', ps[0]?.map Prod.snd = some b0 ∧ ps[R.length - 1]?.map Prod.snd = some b1 ∧ R[1]? = some x1 ∧ R[R.length - 2]? = some xn ∧
      leapfrogref09x_Peer_Ask.v (PP b0) (.int .i64 0) (QC 3 zR zR 9 1) s = some (.tuple ⟨[w1, .int .i64 0]⟩, s1) ∧ StpK [11] s s1 ∧
      leapfrogref09x_Peer_Ask.v (PP b0) (.int .i64 0) (QC 5 x1 zR 9 1) s1 = some (.tuple ⟨[w2, .int .i64 0]⟩, s2) ∧ StpK [11] s1 s2 ∧
      leapfrogref09x_Peer_Ask.v (PP b0) (.int .i64 0) (QC 4 zR zR 9 1) s2 = some (.tuple ⟨[w3, .int .i64 0]⟩, s3) ∧ StpK [11] s2 s3 ∧
      leapfrogref09x_Peer_Ask.v (PP b1) (.int .i64 0) (QC 6 xn zR 0 0) s3 = some (.tuple ⟨[w4, .int .i64 0]⟩, s4) ∧ StpK [11] s3 s4 ∧
      ps'.map Prod.snd = ps.map Prod.snd ∧ WAt ps' s4 ∧ ∀ (j : Nat) q, ps'[j]? = some q → Vw q.1 (rec14 R j) ∧ R[j]? = some q.1.me ∧ (q.1.en = true ↔ (j = 0 ∨ j + 1 = R.length)) ∧ q.1.ma = false := by
  have h2 := hR.len
  obtain ⟨⟨p0, b0⟩, h0⟩ := get_some (l := ps) (j := 0) (by omega)
  obtain ⟨⟨pn, b1⟩, hn⟩ := get_some (l := ps) (j := R.length - 1) (by omega)
  obtain ⟨x1, hx1⟩ := get_some (l := R) (j := 1) (by omega)
  obtain ⟨xn, hxn⟩ := get_some (l := R) (j := R.length - 2) (by omega)
  obtain ⟨vv0, e0⟩ := hq 0 _ h0
  obtain ⟨vvn, en⟩ := hq _ _ hn
  have d0 : R.getD 0 zR = endL 0 := by rw [List.getD_eq_getElem?_getD, hR.first]; rfl
  have dn : R.getD (R.length - 1) zR = endR 0 := by rw [List.getD_eq_getElem?_getD, hR.last]; rfl
  have e0 : p0 = ⟨endL 0, true, true, false, [], vv0, []⟩ := by
    have : p0 = pr14 R 0 vv0 := e0
    rw [this]; unfold pr14; rw [if_pos (.inl rfl), d0]
  have en : pn = ⟨endR 0, true, true, false, [], vvn, []⟩ := by
    have : pn = pr14 R (R.length - 1) vvn := en
    rw [this]; unfold pr14; rw [if_pos (.inr (by omega)), dn]
  have A0 := hw.p 0 _ h0
  have V0 : Vw p0 ⟨0, 0, zR, endR 0, false, 0, 0⟩ := by
    have := Vw.end (p := p0) (by rw [e0]) (by rw [e0]) (by rw [e0]; exact Int.le_refl _)
    rw [e0] at this ⊢
    exact this
  have lu := hR.up 0 (endL 0) x1 hR.first hx1
  have ln := hR.up (R.length - 2) xn (endR 0) hxn (by rw [show R.length - 2 + 1 = R.length - 1 by omega]; exact hR.last)
  obtain ⟨w1, s1, q1, k1, _, A1, V1, L1, b1'⟩ := vlock (t := 0) f A0 V0 okO91 rfl
  have f1 := b1'.fr f
  have W1 := hw.set h0 b1' A1
  have g1 : (ps.set 0 (q1, b0))[0]? = some (q1, b0) := by rw [List.getElem?_set, if_pos rfl, if_pos (by omega)]
  obtain ⟨w2, s2, q2, k2, _, A2, V2, L2, b2'⟩ := vright (t := 0) f1 A1 V1 rfl (okRef_R hR hx1) (by rw [L1.1, e0]; exact lu)
  have f2 := b2'.fr f1
  have W2 := W1.set g1 b2' A2
  rw [List.set_set] at W2
  have g2 : (ps.set 0 (q2, b0))[0]? = some (q2, b0) := by rw [List.getElem?_set, if_pos rfl, if_pos (by omega)]
  obtain ⟨w3, s3, q3, k3, _, A3, V3, L3, b3'⟩ := vfree (t := 0) f2 A2 V2 okO91 rfl
  have f3 := b3'.fr f2
  have W3 := W2.set g2 b3' A3
  rw [List.set_set] at W3
  have g3 : (ps.set 0 (q3, b0))[R.length - 1]? = some (pn, b1) := by rw [List.getElem?_set, if_neg (by omega)]; exact hn
  have An := W3.p _ _ g3
  have Vn : Vw pn ⟨0, 0, endL 0, zR, false, 0, 0⟩ := by
    have := Vw.end (p := pn) (by rw [en]) (by rw [en]) (by rw [en]; exact Int.le_refl _)
    rw [en] at this ⊢
    exact this
  obtain ⟨w4, s4, q4, k4, _, A4, V4, L4, b4'⟩ := vleft (t := 0) f3 An Vn (fun _ => ⟨rfl, rfl⟩) (okRef_R hR hxn) (by rw [en]; exact ln)
  have W4 := W3.set g3 b4' A4
  refine ⟨b0, b1, x1, xn, w1, s1, w2, s2, w3, s3, w4, s4, _, by rw [h0]; rfl, by rw [hn]; rfl, hx1, hxn, k1, stb_k A0 b1', k2, stb_k A1 b2', k3, stb_k A2 b3', k4, stb_k An b4', ?_, W4, fun j q hj => ?_⟩
  · apply List.ext_getElem?
    intro i
    simp only [List.getElem?_map, List.getElem?_set]
    split
    · rename_i e; subst e
      rw [if_pos (by rw [List.length_set]; omega), hn]; rfl
    · split
      · rename_i e; subst e
        rw [if_pos (by omega), h0]; rfl
      · rfl
  · rw [List.getElem?_set] at hj
    split at hj
    · rename_i e
      subst e
      rw [if_pos (by rw [List.length_set]; omega)] at hj
      cases hj
      refine ⟨?_, by rw [hR.last, L4.1, en], by rw [L4.2.1, en]; simp; omega, by rw [L4.2.2.2.1, en]⟩
      have : rec14 R (R.length - 1) = { (⟨0, 0, endL 0, zR, false, 0, 0⟩ : Rc) with l := xn } := by
        unfold rec14
        rw [if_neg (by omega), List.getD_eq_getElem?_getD, show R.length - 1 - 1 = R.length - 2 by omega, hxn, List.getD_eq_getElem?_getD, List.getElem?_eq_none (by omega)]
        rfl
      rw [this]
      exact V4
    · rw [List.getElem?_set] at hj
      split at hj
      · rename_i e
        subst e
        rw [if_pos (by omega)] at hj
        cases hj
        refine ⟨?_, by rw [hR.first, L3.1, L2.1, L1.1, e0], by rw [L3.2.1, L2.2.1, L1.2.1, e0]; simp, by rw [L3.2.2.2.1, L2.2.2.2.1, L1.2.2.2.1, e0]⟩
        have : rec14 R 0 = freed { (lockd ⟨0, 0, zR, endR 0, false, 0, 0⟩ 9 1) with r := x1 } := by
          unfold rec14
          rw [if_pos rfl, List.getD_eq_getElem?_getD, hx1]
          rfl
        rw [this]
        exact V3
      · rename_i n1 n2
        obtain ⟨vv, e⟩ := hq j q hj
        have hjl : j < ps.length := (List.getElem?_eq_some_iff.1 hj).1
        obtain ⟨r, hr'⟩ := get_some (l := R) (j := j) (by omega)
        have hd : R.getD j zR = r := by rw [List.getD_eq_getElem?_getD, hr']; rfl
        obtain ⟨c1, c2, c3, c4⟩ := hR.inner j r (by omega) (by omega) hr'
        have e : q.1 = in14 vv r (R.getD (j - 1) zR) (R.getD (j + 1) zR) := by
          rw [e]; unfold pr14; rw [if_neg (by omega), hd]
        rw [e]
        refine ⟨⟨⟨rfl, rfl⟩, .inl ?_, hasC_0 rfl c2 c3⟩, hr', by simp; omega, rfl⟩
        unfold rec14
        rw [if_neg (by omega)]
end Go.Proofs.Ytkkgegocliobpaa
