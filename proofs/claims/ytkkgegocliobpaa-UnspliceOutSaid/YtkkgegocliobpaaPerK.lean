/-
  Law 14's list: one inner peer is made.
-/
import Derived.Test.YtkkgegocliobpaaPerJ
set_option linter.unusedSimpArgs false
set_option linter.unusedVariables false
set_option maxRecDepth 100000
set_option maxHeartbeats 2000000
namespace Go.Proofs.Ytkkgegocliobpaa
open Go.Sim Go.Sim.Bt

abbrev QC (k : Int) (r r2 : Rf) (oa oo : Int) : Value := .agg ⟨(⟨k, 0, 0, r, r2, oa, oo⟩ : AskP).cs⟩
abbrev in14 (vv : Value) (r a c : Rf) : Pr := ⟨r, false, true, false, [], vv, [⟨0, 0, a, c, false, 0, 0⟩]⟩
theorem okO91 : okO 9 1 := by unfold okO; omega
/-- A step of one peer, told at once. -/
theorem inner14 {s : St} (f : Fresh s) {r a c : Rf} (h1 : r.rk = 2) (h2 : r.ln = 0) (h3 : r.bt = 0) (h4 : 2 ≤ r.id) (h5 : r.id < 1024) (la : lessK a.rk a.n r.rk r.n) (lc : lessK r.rk r.n c.rk c.n) (oa : okRef a) (oc : okRef c) :
    ∃ b s1 v2 s2 v3 s3 v4 s4, leapfrogref09x_New.v (.agg ⟨r.cs⟩) (.slice none 0 0) s = some (.tuple ⟨[PP b, .int .i64 0]⟩, s1) ∧ More s s1 ∧ Fresh s1 ∧ s.n ≤ b ∧
      leapfrogref09x_Peer_Ask.v (PP b) (.int .i64 0) (QC 7 a c 9 1) s1 = some (.tuple ⟨[v2, .int .i64 0]⟩, s2) ∧ StB b s1 s2 ∧
      leapfrogref09x_Peer_Ask.v (PP b) (.int .i64 0) (QC 4 zR zR 9 1) s2 = some (.tuple ⟨[v3, .int .i64 0]⟩, s3) ∧ StB b s2 s3 ∧
      leapfrogref09x_Peer_Ask.v (PP b) (.int .i64 0) (QC 10 zR zR 0 0) s3 = some (.tuple ⟨[v4, .int .i64 0]⟩, s4) ∧ StB b s3 s4 ∧ AtP (in14 (.slice (some ⟨s.n, 0, some 0⟩) 0 0) r a c) s4 b := by
  obtain ⟨b, s1, e1, A1, m1, f1, hb⟩ := new_p f h1 (by rw [h2, h3]; exact okV0) h4 h5
  have hc0 : hasC (⟨r, false, false, false, [], .slice (some ⟨s.n, 0, some 0⟩) 0 0, []⟩ : Pr) 0 0 := hasC_0 rfl h2 h3
  have zq : Zw (⟨0, 0, a, c, true, 9, 1⟩ : Rc) := ⟨rfl, rfl⟩
  have ok1 := setL_ok (p := ⟨r, false, false, false, [], .slice (some ⟨s.n, 0, some 0⟩) 0 0, []⟩) zq (.inl rfl)
  obtain ⟨v2, s2, e2, _, A2, b2⟩ := enter_p (t := 0) f1 A1 okV0 oa oc okO91 (get_none rfl rfl) rfl hc0 la lc ok1.1 ok1.2
  have V2 : Vw { (⟨r, false, false, false, [], .slice (some ⟨s.n, 0, some 0⟩) 0 0, []⟩ : Pr) with L := setL ⟨r, false, false, false, [], .slice (some ⟨s.n, 0, some 0⟩) 0 0, []⟩ ⟨0, 0, a, c, true, 9, 1⟩ } ⟨0, 0, a, c, true, 9, 1⟩ := Vw.first rfl rfl zq hc0
  have f2 := b2.fr f1
  have zf : Zw (freed ⟨0, 0, a, c, true, 9, 1⟩) := ⟨rfl, rfl⟩
  have ok2 := setL_ok zf V2.one
  obtain ⟨v3, s3, e3, _, A3, b3⟩ := free_p (t := 0) f2 A2 okV0 V2.get okO91 rfl ok2.1 ok2.2
  have f3 := b3.fr f2
  obtain ⟨v4, s4, e4, _, A4, b4⟩ := joined_p (t := 0) f3 A3 rfl
  refine ⟨b, s1, v2, s2, v3, s3, v4, s4, e1, m1, f1, hb, e2, b2, e3, b3, e4, b4, ?_⟩
  have hL := one_setL zf V2.one
  rw [if_neg (by unfold plainC; simp)] at hL
  have : ({ (⟨r, false, false, false, [], .slice (some ⟨s.n, 0, some 0⟩) 0 0, setL ⟨r, false, false, false, [], .slice (some ⟨s.n, 0, some 0⟩) 0 0, setL ⟨r, false, false, false, [], .slice (some ⟨s.n, 0, some 0⟩) 0 0, []⟩ ⟨0, 0, a, c, true, 9, 1⟩⟩ (freed ⟨0, 0, a, c, true, 9, 1⟩)⟩ : Pr) with jo := true }) = in14 (.slice (some ⟨s.n, 0, some 0⟩) 0 0) r a c := by
    rw [hL]; rfl
  rw [← this]
  exact A4
end Go.Proofs.Ytkkgegocliobpaa
