/-
  Which asks may be, by the program: joined.
-/
import Derived.Test.YteapmnolmfickaaMsgC
set_option linter.unusedSimpArgs false
set_option linter.unusedVariables false
set_option maxRecDepth 100000
set_option maxHeartbeats 4000000
namespace Go.Proofs.Yteapmnolmfickaa
open Go.Sim Go.Sim.Bt
attribute [local congr] bdc cndc itec gdc gdSc gdUc

def a0K (k : Int) : AskP := ⟨k, 0, 0, zR, zR, 0, 0⟩
/-- The fields of an ask, if it may be. -/
noncomputable def fieldsA (a : AskP) : Option (List Fd) := match needsP a.k with
  | none => none
  | some L => askL a L 0 0 []
def passA (a : AskP) : Prop := ∃ fs, fieldsA a = some fs ∧ madeL fs false false (a0K a.k) = a
theorem pass_of {a : AskP} {fs : List Fd} (ha : fieldsA a = some fs) (hm : madeL fs false false (a0K a.k) = onlyA a) : passA a ↔ a = onlyA a := by
  unfold passA
  constructor
  · rintro ⟨gs, h1, h2⟩
    rw [ha] at h1
    cases h1
    rw [hm] at h2
    exact h2.symm
  · intro h
    exact ⟨fs, ha, by rw [hm]; exact h.symm⟩
theorem pass_no {a : AskP} (ha : fieldsA a = none) : ¬ passA a := by
  rintro ⟨fs, h, _⟩
  rw [ha] at h
  cases h
theorem askL_y {a : AskP} {k : Int} {ks : List Int} {ri ii : Nat} {out : List Fd} (h : okM (fieldOf a k ri ii)) : askL a (k :: ks) ri ii out = askL a ks (ri + if k = 7 then 1 else 0) (ii + if k = 2 then 1 else 0) (out ++ [fieldOf a k ri ii]) := by
  unfold askL; rw [if_pos h]; cases ks <;> rfl
theorem askL_n {a : AskP} {k : Int} {ks : List Int} {ri ii : Nat} {out : List Fd} (h : ¬ okM (fieldOf a k ri ii)) : askL a (k :: ks) ri ii out = none := by
  unfold askL; rw [if_neg h]
/-- What the program finds of an ask is what the reference finds. -/
theorem passA_iff (a : AskP) : passA a ↔ okA a := by
  obtain ⟨k, wl, wb, r, r2, oa, oo⟩ := a
  by_cases hk : 1 ≤ k ∧ k ≤ 10
  · have hc : k = 1 ∨ k = 2 ∨ k = 3 ∨ k = 4 ∨ k = 5 ∨ k = 6 ∨ k = 7 ∨ k = 8 ∨ k = 9 ∨ k = 10 := by omega
    rcases hc with rfl | rfl | rfl | rfl | rfl | rfl | rfl | rfl | rfl | rfl
    · by_cases g0 : okV wl wb
      · have hf : fieldsA (⟨1, wl, wb, r, r2, oa, oo⟩ : AskP) = some [mV wl wb] := by
          show askL (⟨1, wl, wb, r, r2, oa, oo⟩ : AskP) [5] 0 0 [] = _
          refine Eq.trans (askL_y (show okM (fieldOf (⟨1, wl, wb, r, r2, oa, oo⟩ : AskP) 5 0 0) from (okM_V _ _).2 g0)) ?_
          rfl
        rw [pass_of hf rfl]
        exact ⟨fun e => ⟨hk, e, fun _ => g0, fun e => by unfold hasR at e; simp only at e; omega, fun e => by simp only at e; omega⟩, fun e => e.2.1⟩
      · have hf : fieldsA (⟨1, wl, wb, r, r2, oa, oo⟩ : AskP) = none := by
          show askL (⟨1, wl, wb, r, r2, oa, oo⟩ : AskP) [5] 0 0 [] = _
          exact askL_n (fun e : okM (fieldOf (⟨1, wl, wb, r, r2, oa, oo⟩ : AskP) 5 0 0) => g0 ((okM_V _ _).1 e))
        exact ⟨fun e => absurd e (pass_no hf), fun e => absurd (e.2.2.1 (by unfold hasW; simp)) g0⟩
    · have hf : fieldsA (⟨2, wl, wb, r, r2, oa, oo⟩ : AskP) = some [] := by
        show askL (⟨2, wl, wb, r, r2, oa, oo⟩ : AskP) [] 0 0 [] = _
        rfl
      rw [pass_of hf rfl]
      exact ⟨fun e => ⟨hk, e, fun e => by unfold hasW at e; simp only at e; omega, fun e => by unfold hasR at e; simp only at e; omega, fun e => by simp only at e; omega⟩, fun e => e.2.1⟩
    · by_cases g0 : okV wl wb
      · have hf : fieldsA (⟨3, wl, wb, r, r2, oa, oo⟩ : AskP) = some [mV wl wb, mI oa, mI oo] := by
          show askL (⟨3, wl, wb, r, r2, oa, oo⟩ : AskP) [5, 2, 2] 0 0 [] = _
          refine Eq.trans (askL_y (show okM (fieldOf (⟨3, wl, wb, r, r2, oa, oo⟩ : AskP) 5 0 0) from (okM_V _ _).2 g0)) ?_
          refine Eq.trans (askL_y (show okM (fieldOf (⟨3, wl, wb, r, r2, oa, oo⟩ : AskP) 2 0 0) from okM_I _)) ?_
          refine Eq.trans (askL_y (show okM (fieldOf (⟨3, wl, wb, r, r2, oa, oo⟩ : AskP) 2 0 1) from okM_I _)) ?_
          rfl
        rw [pass_of hf rfl]
        exact ⟨fun e => ⟨hk, e, fun _ => g0, fun e => by unfold hasR at e; simp only at e; omega, fun e => by simp only at e; omega⟩, fun e => e.2.1⟩
      · have hf : fieldsA (⟨3, wl, wb, r, r2, oa, oo⟩ : AskP) = none := by
          show askL (⟨3, wl, wb, r, r2, oa, oo⟩ : AskP) [5, 2, 2] 0 0 [] = _
          exact askL_n (fun e : okM (fieldOf (⟨3, wl, wb, r, r2, oa, oo⟩ : AskP) 5 0 0) => g0 ((okM_V _ _).1 e))
        exact ⟨fun e => absurd e (pass_no hf), fun e => absurd (e.2.2.1 (by unfold hasW; simp)) g0⟩
    · by_cases g0 : okV wl wb
      · have hf : fieldsA (⟨4, wl, wb, r, r2, oa, oo⟩ : AskP) = some [mV wl wb, mI oa, mI oo] := by
          show askL (⟨4, wl, wb, r, r2, oa, oo⟩ : AskP) [5, 2, 2] 0 0 [] = _
          refine Eq.trans (askL_y (show okM (fieldOf (⟨4, wl, wb, r, r2, oa, oo⟩ : AskP) 5 0 0) from (okM_V _ _).2 g0)) ?_
          refine Eq.trans (askL_y (show okM (fieldOf (⟨4, wl, wb, r, r2, oa, oo⟩ : AskP) 2 0 0) from okM_I _)) ?_
          refine Eq.trans (askL_y (show okM (fieldOf (⟨4, wl, wb, r, r2, oa, oo⟩ : AskP) 2 0 1) from okM_I _)) ?_
          rfl
        rw [pass_of hf rfl]
        exact ⟨fun e => ⟨hk, e, fun _ => g0, fun e => by unfold hasR at e; simp only at e; omega, fun e => by simp only at e; omega⟩, fun e => e.2.1⟩
      · have hf : fieldsA (⟨4, wl, wb, r, r2, oa, oo⟩ : AskP) = none := by
          show askL (⟨4, wl, wb, r, r2, oa, oo⟩ : AskP) [5, 2, 2] 0 0 [] = _
          exact askL_n (fun e : okM (fieldOf (⟨4, wl, wb, r, r2, oa, oo⟩ : AskP) 5 0 0) => g0 ((okM_V _ _).1 e))
        exact ⟨fun e => absurd e (pass_no hf), fun e => absurd (e.2.2.1 (by unfold hasW; simp)) g0⟩
    · by_cases g0 : okV wl wb
      · by_cases g1 : okRf r
        · have hf : fieldsA (⟨5, wl, wb, r, r2, oa, oo⟩ : AskP) = some [mV wl wb, mR r, mI oa, mI oo] := by
            show askL (⟨5, wl, wb, r, r2, oa, oo⟩ : AskP) [5, 7, 2, 2] 0 0 [] = _
            refine Eq.trans (askL_y (show okM (fieldOf (⟨5, wl, wb, r, r2, oa, oo⟩ : AskP) 5 0 0) from (okM_V _ _).2 g0)) ?_
            refine Eq.trans (askL_y (show okM (fieldOf (⟨5, wl, wb, r, r2, oa, oo⟩ : AskP) 7 0 0) from (okM_R _).2 g1)) ?_
            refine Eq.trans (askL_y (show okM (fieldOf (⟨5, wl, wb, r, r2, oa, oo⟩ : AskP) 2 1 0) from okM_I _)) ?_
            refine Eq.trans (askL_y (show okM (fieldOf (⟨5, wl, wb, r, r2, oa, oo⟩ : AskP) 2 1 1) from okM_I _)) ?_
            rfl
          rw [pass_of hf rfl]
          exact ⟨fun e => ⟨hk, e, fun _ => g0, fun _ => g1, fun e => by simp only at e; omega⟩, fun e => e.2.1⟩
        · have hf : fieldsA (⟨5, wl, wb, r, r2, oa, oo⟩ : AskP) = none := by
            show askL (⟨5, wl, wb, r, r2, oa, oo⟩ : AskP) [5, 7, 2, 2] 0 0 [] = _
            refine Eq.trans (askL_y (show okM (fieldOf (⟨5, wl, wb, r, r2, oa, oo⟩ : AskP) 5 0 0) from (okM_V _ _).2 g0)) ?_
            exact askL_n (fun e : okM (fieldOf (⟨5, wl, wb, r, r2, oa, oo⟩ : AskP) 7 0 0) => g1 ((okM_R _).1 e))
          exact ⟨fun e => absurd e (pass_no hf), fun e => absurd (e.2.2.2.1 (by unfold hasR; simp)) g1⟩
      · have hf : fieldsA (⟨5, wl, wb, r, r2, oa, oo⟩ : AskP) = none := by
          show askL (⟨5, wl, wb, r, r2, oa, oo⟩ : AskP) [5, 7, 2, 2] 0 0 [] = _
          exact askL_n (fun e : okM (fieldOf (⟨5, wl, wb, r, r2, oa, oo⟩ : AskP) 5 0 0) => g0 ((okM_V _ _).1 e))
        exact ⟨fun e => absurd e (pass_no hf), fun e => absurd (e.2.2.1 (by unfold hasW; simp)) g0⟩
    · by_cases g0 : okV wl wb
      · by_cases g1 : okRf r
        · have hf : fieldsA (⟨6, wl, wb, r, r2, oa, oo⟩ : AskP) = some [mV wl wb, mR r] := by
            show askL (⟨6, wl, wb, r, r2, oa, oo⟩ : AskP) [5, 7] 0 0 [] = _
            refine Eq.trans (askL_y (show okM (fieldOf (⟨6, wl, wb, r, r2, oa, oo⟩ : AskP) 5 0 0) from (okM_V _ _).2 g0)) ?_
            refine Eq.trans (askL_y (show okM (fieldOf (⟨6, wl, wb, r, r2, oa, oo⟩ : AskP) 7 0 0) from (okM_R _).2 g1)) ?_
            rfl
          rw [pass_of hf rfl]
          exact ⟨fun e => ⟨hk, e, fun _ => g0, fun _ => g1, fun e => by simp only at e; omega⟩, fun e => e.2.1⟩
        · have hf : fieldsA (⟨6, wl, wb, r, r2, oa, oo⟩ : AskP) = none := by
            show askL (⟨6, wl, wb, r, r2, oa, oo⟩ : AskP) [5, 7] 0 0 [] = _
            refine Eq.trans (askL_y (show okM (fieldOf (⟨6, wl, wb, r, r2, oa, oo⟩ : AskP) 5 0 0) from (okM_V _ _).2 g0)) ?_
            exact askL_n (fun e : okM (fieldOf (⟨6, wl, wb, r, r2, oa, oo⟩ : AskP) 7 0 0) => g1 ((okM_R _).1 e))
          exact ⟨fun e => absurd e (pass_no hf), fun e => absurd (e.2.2.2.1 (by unfold hasR; simp)) g1⟩
      · have hf : fieldsA (⟨6, wl, wb, r, r2, oa, oo⟩ : AskP) = none := by
          show askL (⟨6, wl, wb, r, r2, oa, oo⟩ : AskP) [5, 7] 0 0 [] = _
          exact askL_n (fun e : okM (fieldOf (⟨6, wl, wb, r, r2, oa, oo⟩ : AskP) 5 0 0) => g0 ((okM_V _ _).1 e))
        exact ⟨fun e => absurd e (pass_no hf), fun e => absurd (e.2.2.1 (by unfold hasW; simp)) g0⟩
    · by_cases g0 : okV wl wb
      · by_cases g1 : okRf r
        · by_cases g2 : okRf r2
          · have hf : fieldsA (⟨7, wl, wb, r, r2, oa, oo⟩ : AskP) = some [mV wl wb, mR r, mR r2, mI oa, mI oo] := by
              show askL (⟨7, wl, wb, r, r2, oa, oo⟩ : AskP) [5, 7, 7, 2, 2] 0 0 [] = _
              refine Eq.trans (askL_y (show okM (fieldOf (⟨7, wl, wb, r, r2, oa, oo⟩ : AskP) 5 0 0) from (okM_V _ _).2 g0)) ?_
              refine Eq.trans (askL_y (show okM (fieldOf (⟨7, wl, wb, r, r2, oa, oo⟩ : AskP) 7 0 0) from (okM_R _).2 g1)) ?_
              refine Eq.trans (askL_y (show okM (fieldOf (⟨7, wl, wb, r, r2, oa, oo⟩ : AskP) 7 1 0) from (okM_R _).2 g2)) ?_
              refine Eq.trans (askL_y (show okM (fieldOf (⟨7, wl, wb, r, r2, oa, oo⟩ : AskP) 2 2 0) from okM_I _)) ?_
              refine Eq.trans (askL_y (show okM (fieldOf (⟨7, wl, wb, r, r2, oa, oo⟩ : AskP) 2 2 1) from okM_I _)) ?_
              rfl
            rw [pass_of hf rfl]
            exact ⟨fun e => ⟨hk, e, fun _ => g0, fun _ => g1, fun _ => g2⟩, fun e => e.2.1⟩
          · have hf : fieldsA (⟨7, wl, wb, r, r2, oa, oo⟩ : AskP) = none := by
              show askL (⟨7, wl, wb, r, r2, oa, oo⟩ : AskP) [5, 7, 7, 2, 2] 0 0 [] = _
              refine Eq.trans (askL_y (show okM (fieldOf (⟨7, wl, wb, r, r2, oa, oo⟩ : AskP) 5 0 0) from (okM_V _ _).2 g0)) ?_
              refine Eq.trans (askL_y (show okM (fieldOf (⟨7, wl, wb, r, r2, oa, oo⟩ : AskP) 7 0 0) from (okM_R _).2 g1)) ?_
              exact askL_n (fun e : okM (fieldOf (⟨7, wl, wb, r, r2, oa, oo⟩ : AskP) 7 1 0) => g2 ((okM_R _).1 e))
            exact ⟨fun e => absurd e (pass_no hf), fun e => absurd (e.2.2.2.2 rfl) g2⟩
        · have hf : fieldsA (⟨7, wl, wb, r, r2, oa, oo⟩ : AskP) = none := by
            show askL (⟨7, wl, wb, r, r2, oa, oo⟩ : AskP) [5, 7, 7, 2, 2] 0 0 [] = _
            refine Eq.trans (askL_y (show okM (fieldOf (⟨7, wl, wb, r, r2, oa, oo⟩ : AskP) 5 0 0) from (okM_V _ _).2 g0)) ?_
            exact askL_n (fun e : okM (fieldOf (⟨7, wl, wb, r, r2, oa, oo⟩ : AskP) 7 0 0) => g1 ((okM_R _).1 e))
          exact ⟨fun e => absurd e (pass_no hf), fun e => absurd (e.2.2.2.1 (by unfold hasR; simp)) g1⟩
      · have hf : fieldsA (⟨7, wl, wb, r, r2, oa, oo⟩ : AskP) = none := by
          show askL (⟨7, wl, wb, r, r2, oa, oo⟩ : AskP) [5, 7, 7, 2, 2] 0 0 [] = _
          exact askL_n (fun e : okM (fieldOf (⟨7, wl, wb, r, r2, oa, oo⟩ : AskP) 5 0 0) => g0 ((okM_V _ _).1 e))
        exact ⟨fun e => absurd e (pass_no hf), fun e => absurd (e.2.2.1 (by unfold hasW; simp)) g0⟩
    · by_cases g0 : okV wl wb
      · have hf : fieldsA (⟨8, wl, wb, r, r2, oa, oo⟩ : AskP) = some [mV wl wb, mI oa, mI oo] := by
          show askL (⟨8, wl, wb, r, r2, oa, oo⟩ : AskP) [5, 2, 2] 0 0 [] = _
          refine Eq.trans (askL_y (show okM (fieldOf (⟨8, wl, wb, r, r2, oa, oo⟩ : AskP) 5 0 0) from (okM_V _ _).2 g0)) ?_
          refine Eq.trans (askL_y (show okM (fieldOf (⟨8, wl, wb, r, r2, oa, oo⟩ : AskP) 2 0 0) from okM_I _)) ?_
          refine Eq.trans (askL_y (show okM (fieldOf (⟨8, wl, wb, r, r2, oa, oo⟩ : AskP) 2 0 1) from okM_I _)) ?_
          rfl
        rw [pass_of hf rfl]
        exact ⟨fun e => ⟨hk, e, fun _ => g0, fun e => by unfold hasR at e; simp only at e; omega, fun e => by simp only at e; omega⟩, fun e => e.2.1⟩
      · have hf : fieldsA (⟨8, wl, wb, r, r2, oa, oo⟩ : AskP) = none := by
          show askL (⟨8, wl, wb, r, r2, oa, oo⟩ : AskP) [5, 2, 2] 0 0 [] = _
          exact askL_n (fun e : okM (fieldOf (⟨8, wl, wb, r, r2, oa, oo⟩ : AskP) 5 0 0) => g0 ((okM_V _ _).1 e))
        exact ⟨fun e => absurd e (pass_no hf), fun e => absurd (e.2.2.1 (by unfold hasW; simp)) g0⟩
    · have hf : fieldsA (⟨9, wl, wb, r, r2, oa, oo⟩ : AskP) = some [] := by
        show askL (⟨9, wl, wb, r, r2, oa, oo⟩ : AskP) [] 0 0 [] = _
        rfl
      rw [pass_of hf rfl]
      exact ⟨fun e => ⟨hk, e, fun e => by unfold hasW at e; simp only at e; omega, fun e => by unfold hasR at e; simp only at e; omega, fun e => by simp only at e; omega⟩, fun e => e.2.1⟩
    · have hf : fieldsA (⟨10, wl, wb, r, r2, oa, oo⟩ : AskP) = some [] := by
        show askL (⟨10, wl, wb, r, r2, oa, oo⟩ : AskP) [] 0 0 [] = _
        rfl
      rw [pass_of hf rfl]
      exact ⟨fun e => ⟨hk, e, fun e => by unfold hasW at e; simp only at e; omega, fun e => by unfold hasR at e; simp only at e; omega, fun e => by simp only at e; omega⟩, fun e => e.2.1⟩
  · have hn : needsP k = none := by
      unfold needsP
      rw [if_neg (by omega), if_neg (by omega), if_neg (by omega), if_neg (by omega), if_neg (by omega), if_neg (by omega)]
    have hf : fieldsA (⟨k, wl, wb, r, r2, oa, oo⟩ : AskP) = none := by unfold fieldsA; simp only [hn]
    exact ⟨fun e => absurd e (pass_no hf), fun e => absurd e.1 hk⟩
theorem needs_in {k : Int} {L : List Int} (h : needsP k = some L) : L.length ≤ 10 ∧ (∀ x ∈ L, x = 5 ∨ x = 7 ∨ x = 2) ∧ cnt 7 L ≤ 2 ∧ cnt 2 L ≤ 2 := by
  unfold needsP at h
  repeat' (split at h)
  all_goals first | (cases h; done) | (cases h; refine ⟨by decide, ?_, by decide, by decide⟩; intro x hx; simp at hx <;> omega)
theorem askL_nil {a : AskP} : ∀ {ks : List Int} {ri ii : Nat} {out fs : List Fd}, (∀ f ∈ out, f.b = nilB) → askL a ks ri ii out = some fs → (∀ f ∈ fs, f.b = nilB) ∧ fs.length = out.length + ks.length
  | [], ri, ii, out, fs, ho, h => by unfold askL at h; cases h; exact ⟨ho, rfl⟩
  | k :: ks, ri, ii, out, fs, ho, h => by
    unfold askL at h
    split at h
    · have := askL_nil (fun f hf => by
        rcases List.mem_append.1 hf with hf | hf
        · exact ho f hf
        · cases List.mem_singleton.1 hf
          unfold fieldOf
          repeat' split
          all_goals rfl) h
      refine ⟨this.1, ?_⟩
      rw [this.2]; simp; omega
    · cases h
/-- What msg.ask answers. -/
def AIs (s : St) (a : AskP) (r : Option (Value × St)) : Prop := ∃ v s' b, r = some (.tuple ⟨[v, .bool b]⟩, s') ∧ More s s' ∧ Fresh s' ∧ (b = true ↔ passA a) ∧ (b = true → ∃ fs, fieldsA a = some fs ∧ Ful s.n s' 14 v (fs.map Fd.cs))
theorem ask_v {s : St} (a : AskP) (hw : 0 ≤ a.wb) (hr : 0 ≤ a.r.bt) (hr2 : 0 ≤ a.r2.bt) (f : Fresh s) : AIs s a (msg_ask.v (.agg ⟨aC a⟩) s) := by
  have hn := needs_v (s := s) a.k f
  cases hN : needsP a.k with
  | none =>
    rw [hN] at hn
    have hf : fieldsA a = none := by unfold fieldsA; rw [hN]
    refine ⟨.slice none 0 0, s, false, ?_, .refl s, f, ⟨fun e => (by cases e), fun e => absurd e (pass_no hf)⟩, fun e => (by cases e)⟩
    have hn : msg_needs.v (.int .i64 a.k) s = some (.tuple ⟨[.slice none 0 0, .bool false]⟩, s) := hn
    simp only [msg_ask.v, msg_ask.t, aC, sy, reduceIte, Nat.reduceAdd, Nat.reduceLeDiff, Nat.reduceLT, Nat.reduceEqDiff, Int.reduceEq, Int.reduceLT, Int.reduceLE, Int.reduceNe, ly, hn]
  | some L =>
    rw [hN] at hn
    obtain ⟨kv, s1, n1, n2, n3, n4⟩ := hn
    obtain ⟨l1, l2, l3, l4⟩ := needs_in hN
    have hfA : fieldsA a = askL a L 0 0 [] := by unfold fieldsA; rw [hN]
    have hlen := n3.isR.len
    rw [show (ki L).length = L.length by simp [ki]] at hlen
    have b1 : ∀ t : St, als t 5 2 [a.r.cs, a.r2.cs] = some (rvA t.n 0, t.new (.row 5 [a.r.cs, a.r2.cs] false)) := fun _ => rfl
    have b2 : ∀ t : St, als t 1 2 [[.int .i64 a.oa], [.int .i64 a.oo]] = some (rvA t.n 0, t.new (.row 1 [[.int .i64 a.oa], [.int .i64 a.oo]] false)) := fun _ => rfl
    have B1 := b1 s1
    have m2 : More s1 (s1.new (.row 5 [a.r.cs, a.r2.cs] false)) := .new
    have g1 : (s1.new (.row 5 [a.r.cs, a.r2.cs] false)).get s1.n = some (.row 5 [a.r.cs, a.r2.cs] false) := get_new_same
    generalize s1.new (.row 5 [a.r.cs, a.r2.cs] false) = s2 at *
    have f2 := m2.fresh n4
    have B2 := b2 s2
    have m3 : More s2 (s2.new (.row 1 [[.int .i64 a.oa], [.int .i64 a.oo]] false)) := .new
    have g2 : (s2.new (.row 1 [[.int .i64 a.oa], [.int .i64 a.oo]] false)).get s2.n = some (.row 1 [[.int .i64 a.oa], [.int .i64 a.oo]] false) := get_new_same
    generalize s2.new (.row 1 [[.int .i64 a.oa], [.int .i64 a.oo]] false) = s3 at *
    have f3 := m3.fresh f2
    have B0 := b2 s1
    have hkv : IsR s3 1 kv (ki L) := (n3.isR.more m2 n4).more m3 f2
    have hl := askloop (a := a) f3 l1 (m3.get f2 g1) g2 hkv hw hr hr2 L 0 0 0 (by simp) (by omega) l2 (by omega) (by omega) (rfl : ([] : List Fd).length = 0) f3 (.refl s3) (.inl ⟨rfl, rfl⟩ : Ful s3.n s3 14 (.slice none 0 0) (([] : List Fd).map Fd.cs))
    have M3 := (n2.trans m2).trans m3
    cases hA : askL a L 0 0 [] with
    | none =>
      rw [hA] at hl hfA
      obtain ⟨s4, q1, q2, q3⟩ := hl
      have q := q1 (BIG - L.length - 1)
      dsimp only at q
      rw [show BIG - L.length - 1 + L.length + 1 = BIG by unfold BIG; omega] at q
      have q : iter (msg_ask.l7 std) BIG [.slice none 0 0, rvA s1.n 0, rvA s2.n 0, kv, .int .i64 (L.length : Int), .int .i64 0, .agg ⟨aC a⟩] s3 = _ := q
      refine ⟨.slice none 0 0, s4, false, ?_, M3.trans q2, q3, ⟨fun e => (by cases e), fun e => absurd e (pass_no hfA)⟩, fun e => (by cases e)⟩
      simp only [aC] at q
      simp only [Rf.cs] at B1
      simp only [msg_ask.v, msg_ask.t, aC, sy, reduceIte, Nat.reduceAdd, Nat.reduceLeDiff, Nat.reduceLT, Nat.reduceEqDiff, Int.reduceEq, Int.reduceLT, Int.reduceLE, Int.reduceNe, ly, n1, B0, B1, B2, hlen, q]
    | some fs =>
      rw [hA] at hl hfA
      obtain ⟨ov, s4, q1, q2, q3, q4⟩ := hl
      have q := q1 (BIG - L.length - 1)
      dsimp only at q
      rw [show BIG - L.length - 1 + L.length + 1 = BIG by unfold BIG; omega] at q
      have q : iter (msg_ask.l7 std) BIG [.slice none 0 0, rvA s1.n 0, rvA s2.n 0, kv, .int .i64 (L.length : Int), .int .i64 0, .agg ⟨aC a⟩] s3 = _ := q
      obtain ⟨hb, hfl⟩ := askL_nil (fun f hf => absurd hf List.not_mem_nil) hA
      have hm := made_r a.k q4.isR hb (by rw [hfl]; simpa using l1)
      obtain ⟨c, e1, e2⟩ := eqksA (madeL fs false false (a0K a.k)) a
      have hp : passA a ↔ madeL fs false false (a0K a.k) = a := by
        unfold passA
        constructor
        · rintro ⟨gs, h1, h2⟩
          rw [hfA] at h1
          cases h1
          exact h2
        · exact fun h => ⟨fs, hfA, h⟩
      have heq : eqb [1, 1, 1, 1, 1, 1, 1, 1, 1, 1, 1, 1, 1, 1, 1] true false (.agg ⟨aC (madeL fs false false (a0K a.k))⟩) (.agg ⟨aC a⟩) = some (.bool c) := by rw [eqb_agg, e1]; rfl
      refine ⟨ov, s4, c, ?_, M3.trans q2, q3, by rw [e2, hp], fun _ => ⟨fs, hfA, q4.le (by have := M3.n; omega)⟩⟩
      have hm : msg_made.r (.int .i64 a.k) ov s4 = some (.agg ⟨aC (madeL fs false false (a0K a.k))⟩) := hm
      generalize madeL fs false false (a0K a.k) = A at *
      generalize hX : Value.agg ⟨aC A⟩ = X at *
      simp only [aC] at q heq
      simp only [Rf.cs] at B1
      simp only [msg_ask.v, msg_ask.t, aC, sy, reduceIte, Nat.reduceAdd, Nat.reduceLeDiff, Nat.reduceLT, Nat.reduceEqDiff, Int.reduceEq, Int.reduceLT, Int.reduceLE, Int.reduceNe, ly, n1, B0, B1, B2, hlen, q, hm, heq]
open Classical in
theorem checkAsk_v {s : St} (a : AskP) (hw : 0 ≤ a.wb) (hr : 0 ≤ a.r.bt) (hr2 : 0 ≤ a.r2.bt) (f : Fresh s) : ∃ s', msg_CheckAsk.v (.agg ⟨aC a⟩) s = some (.int .i64 (if okA a then 0 else 40), s') ∧ More s s' ∧ Fresh s' := by
  obtain ⟨v, s', b, h1, h2, h3, h4, _⟩ := ask_v a hw hr hr2 f
  rw [passA_iff] at h4
  refine ⟨s', ?_, h2, h3⟩
  simp only [aC] at h1 ⊢
  cases b
  · rw [if_neg (fun e => by cases h4.2 e)]
    simp only [msg_CheckAsk.v, msg_CheckAsk.t, sy, reduceIte, Nat.reduceAdd, Nat.reduceLeDiff, Nat.reduceLT, Nat.reduceEqDiff, Int.reduceEq, Int.reduceLT, Int.reduceLE, Int.reduceNe, ly, h1]
  · rw [if_pos (h4.1 rfl)]
    simp only [msg_CheckAsk.v, msg_CheckAsk.t, sy, reduceIte, Nat.reduceAdd, Nat.reduceLeDiff, Nat.reduceLT, Nat.reduceEqDiff, Int.reduceEq, Int.reduceLT, Int.reduceLE, Int.reduceNe, ly, h1]
open Classical in
theorem checkAsk_r {s : St} (a : AskP) (hw : 0 ≤ a.wb) (hr : 0 ≤ a.r.bt) (hr2 : 0 ≤ a.r2.bt) (f : Fresh s) : msg_CheckAskQ.r (.agg ⟨aC a⟩) s = some (.int .i64 (if okA a then 0 else 40)) := by
  obtain ⟨s', h1, _⟩ := checkAsk_v a hw hr hr2 f.frz
  exact frzR_of h1 rfl
end Go.Proofs.Yteapmnolmfickaa
