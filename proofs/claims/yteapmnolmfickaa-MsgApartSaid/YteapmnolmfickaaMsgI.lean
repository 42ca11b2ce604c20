/-
  A packet's bytes, as the reference makes them.
-/
import Derived.Test.YteapmnolmfickaaMsgH
set_option linter.unusedSimpArgs false
set_option linter.unusedVariables false
set_option maxRecDepth 100000
set_option maxHeartbeats 4000000
namespace Go.Proofs.Yteapmnolmfickaa
open Go.Sim Go.Sim.Bt
attribute [local congr] bdc cndc itec gdc gdSc gdUc
theorem fld2_more {s0 s : St} {v : Value} {fs : List Fd} (g h' : Fd) (f : Fresh s) (h : Ful s0.n s 14 v (fs.map Fd.cs)) (m : More s0 s) (hl : fs.length + 2 ≤ 100) :
    ∃ v' s', app (s.new (.row 14 [g.cs, h'.cs] false)) 14 128 v (.slice (some ⟨s.n, 0, some 0⟩) 2 4) = some (v', s') ∧ More s0 s' ∧ Ful s0.n s' 14 v' ((fs ++ [g, h']).map Fd.cs) ∧ Fresh s' := flds_more (gs := [g, h']) f h m hl (by simp)
def hasF (a : AskP) : List Fd :=
  if a.k = 1 then [mV a.wl a.wb] else if a.k = 3 ∨ a.k = 4 ∨ a.k = 8 then [mV a.wl a.wb, mI a.oa, mI a.oo] else if a.k = 5 then [mV a.wl a.wb, mR a.r, mI a.oa, mI a.oo]
  else if a.k = 6 then [mV a.wl a.wb, mR a.r] else if a.k = 7 then [mV a.wl a.wb, mR a.r, mR a.r2, mI a.oa, mI a.oo] else []
theorem fieldsA_ok {a : AskP} (h : okA a) : fieldsA a = some (hasF a) := by
  obtain ⟨k, wl, wb, r, r2, oa, oo⟩ := a
  obtain ⟨hk, _, hw, hr, h7⟩ := h
  simp only at hk hw hr h7
  have hc : k = 1 ∨ k = 2 ∨ k = 3 ∨ k = 4 ∨ k = 5 ∨ k = 6 ∨ k = 7 ∨ k = 8 ∨ k = 9 ∨ k = 10 := by omega
  rcases hc with rfl | rfl | rfl | rfl | rfl | rfl | rfl | rfl | rfl | rfl
  · show askL (⟨1, wl, wb, r, r2, oa, oo⟩ : AskP) [5] 0 0 [] = _
    refine Eq.trans (askL_y (show okM (fieldOf (⟨1, wl, wb, r, r2, oa, oo⟩ : AskP) 5 0 0) from (okM_V _ _).2 (hw (by unfold hasW; simp)))) ?_
    rfl
  · show askL (⟨2, wl, wb, r, r2, oa, oo⟩ : AskP) [] 0 0 [] = _
    rfl
  · show askL (⟨3, wl, wb, r, r2, oa, oo⟩ : AskP) [5, 2, 2] 0 0 [] = _
    refine Eq.trans (askL_y (show okM (fieldOf (⟨3, wl, wb, r, r2, oa, oo⟩ : AskP) 5 0 0) from (okM_V _ _).2 (hw (by unfold hasW; simp)))) ?_
    refine Eq.trans (askL_y (show okM (fieldOf (⟨3, wl, wb, r, r2, oa, oo⟩ : AskP) 2 0 0) from okM_I _)) ?_
    refine Eq.trans (askL_y (show okM (fieldOf (⟨3, wl, wb, r, r2, oa, oo⟩ : AskP) 2 0 1) from okM_I _)) ?_
    rfl
  · show askL (⟨4, wl, wb, r, r2, oa, oo⟩ : AskP) [5, 2, 2] 0 0 [] = _
    refine Eq.trans (askL_y (show okM (fieldOf (⟨4, wl, wb, r, r2, oa, oo⟩ : AskP) 5 0 0) from (okM_V _ _).2 (hw (by unfold hasW; simp)))) ?_
    refine Eq.trans (askL_y (show okM (fieldOf (⟨4, wl, wb, r, r2, oa, oo⟩ : AskP) 2 0 0) from okM_I _)) ?_
    refine Eq.trans (askL_y (show okM (fieldOf (⟨4, wl, wb, r, r2, oa, oo⟩ : AskP) 2 0 1) from okM_I _)) ?_
    rfl
  · show askL (⟨5, wl, wb, r, r2, oa, oo⟩ : AskP) [5, 7, 2, 2] 0 0 [] = _
    refine Eq.trans (askL_y (show okM (fieldOf (⟨5, wl, wb, r, r2, oa, oo⟩ : AskP) 5 0 0) from (okM_V _ _).2 (hw (by unfold hasW; simp)))) ?_
    refine Eq.trans (askL_y (show okM (fieldOf (⟨5, wl, wb, r, r2, oa, oo⟩ : AskP) 7 0 0) from (okM_R _).2 (hr (by unfold hasR; simp)))) ?_
    refine Eq.trans (askL_y (show okM (fieldOf (⟨5, wl, wb, r, r2, oa, oo⟩ : AskP) 2 1 0) from okM_I _)) ?_
    refine Eq.trans (askL_y (show okM (fieldOf (⟨5, wl, wb, r, r2, oa, oo⟩ : AskP) 2 1 1) from okM_I _)) ?_
    rfl
  · show askL (⟨6, wl, wb, r, r2, oa, oo⟩ : AskP) [5, 7] 0 0 [] = _
    refine Eq.trans (askL_y (show okM (fieldOf (⟨6, wl, wb, r, r2, oa, oo⟩ : AskP) 5 0 0) from (okM_V _ _).2 (hw (by unfold hasW; simp)))) ?_
    refine Eq.trans (askL_y (show okM (fieldOf (⟨6, wl, wb, r, r2, oa, oo⟩ : AskP) 7 0 0) from (okM_R _).2 (hr (by unfold hasR; simp)))) ?_
    rfl
  · show askL (⟨7, wl, wb, r, r2, oa, oo⟩ : AskP) [5, 7, 7, 2, 2] 0 0 [] = _
    refine Eq.trans (askL_y (show okM (fieldOf (⟨7, wl, wb, r, r2, oa, oo⟩ : AskP) 5 0 0) from (okM_V _ _).2 (hw (by unfold hasW; simp)))) ?_
    refine Eq.trans (askL_y (show okM (fieldOf (⟨7, wl, wb, r, r2, oa, oo⟩ : AskP) 7 0 0) from (okM_R _).2 (hr (by unfold hasR; simp)))) ?_
    refine Eq.trans (askL_y (show okM (fieldOf (⟨7, wl, wb, r, r2, oa, oo⟩ : AskP) 7 1 0) from (okM_R _).2 (h7 rfl))) ?_
    refine Eq.trans (askL_y (show okM (fieldOf (⟨7, wl, wb, r, r2, oa, oo⟩ : AskP) 2 2 0) from okM_I _)) ?_
    refine Eq.trans (askL_y (show okM (fieldOf (⟨7, wl, wb, r, r2, oa, oo⟩ : AskP) 2 2 1) from okM_I _)) ?_
    rfl
  · show askL (⟨8, wl, wb, r, r2, oa, oo⟩ : AskP) [5, 2, 2] 0 0 [] = _
    refine Eq.trans (askL_y (show okM (fieldOf (⟨8, wl, wb, r, r2, oa, oo⟩ : AskP) 5 0 0) from (okM_V _ _).2 (hw (by unfold hasW; simp)))) ?_
    refine Eq.trans (askL_y (show okM (fieldOf (⟨8, wl, wb, r, r2, oa, oo⟩ : AskP) 2 0 0) from okM_I _)) ?_
    refine Eq.trans (askL_y (show okM (fieldOf (⟨8, wl, wb, r, r2, oa, oo⟩ : AskP) 2 0 1) from okM_I _)) ?_
    rfl
  · show askL (⟨9, wl, wb, r, r2, oa, oo⟩ : AskP) [] 0 0 [] = _
    rfl
  · show askL (⟨10, wl, wb, r, r2, oa, oo⟩ : AskP) [] 0 0 [] = _
    rfl
end Go.Proofs.Yteapmnolmfickaa
