/-
  A packet's bytes: Encode of both.
-/
import Derived.Test.YteapmnolmfickaaMsgJ
import Derived.Test.YteapmnolmfickaaPakL
set_option linter.unusedSimpArgs false
set_option linter.unusedVariables false
set_option maxRecDepth 100000
set_option maxHeartbeats 4000000
namespace Go.Proofs.Yteapmnolmfickaa
open Go.Sim Go.Sim.Bt
attribute [local congr] bdc cndc itec gdc gdSc gdUc
def i64R (n : Int) : Prop := -9223372036854775808 ≤ n ∧ n ≤ 9223372036854775807
def u64R (n : Int) : Prop := 0 ≤ n ∧ n < 18446744073709551616
structure PkR (p : Pk) : Prop where
  fn : i64R p.fn
  tn : i64R p.tn
  id : i64R p.id
  oa : i64R p.ask.oa
  oo : i64R p.ask.oo
  rid : i64R p.ask.r.id
  rn : u64R p.ask.r.n
  r2id : i64R p.ask.r2.id
  r2n : u64R p.ask.r2.n
  lid : i64R p.ans.l.id
  ln : u64R p.ans.l.n
  aid : i64R p.ans.r.id
  an : u64R p.ans.r.n
theorem mT_a (t : Bool) : FdA (mT t) := ⟨by simp [mT], by simp [mT], by simp [mT], by simp [mT], by simp [mT], by simp [mT], by simp [mT], by simp [mT], by simp [mT], by simp [mT], by simp [mT], by simp [mT]⟩
theorem mI_a {n : Int} (h : i64R n) : FdA (mI n) := ⟨by simp [mI], by simp [mI], h.1, h.2, by simp [mI], by simp [mI], by simp [mI], by simp [mI], by simp [mI], by simp [mI], by simp [mI], by simp [mI]⟩
theorem mN_a {n : Int} (h : u64R n) : FdA (mN n) := ⟨h.1, h.2, by simp [mN], by simp [mN], by simp [mN], by simp [mN], by simp [mN], by simp [mN], by simp [mN], by simp [mN], by simp [mN], by simp [mN]⟩
theorem mV_a {wl wb : Int} (h : 0 ≤ wb) : FdA (mV wl wb) := ⟨by simp [mV], by simp [mV], by simp [mV], by simp [mV], h, by simp [mV], by simp [mV], by simp [mV], by simp [mV], by simp [mV], by simp [mV], by simp [mV]⟩
theorem mR_a {r : Rf} (h1 : i64R r.id) (h2 : u64R r.n) (h3 : 0 ≤ r.bt) : FdA (mR r) := ⟨by simp [mR], by simp [mR], by simp [mR], by simp [mR], by simp [mR], by simp [mR], by simp [mR], h1.1, h1.2, h2.1, h2.2, h3⟩
theorem mB_a (v : Value) : FdA (mB v) := ⟨by simp [mB], by simp [mB], by simp [mB], by simp [mB], by simp [mB], by simp [mB], by simp [mB], by simp [mB], by simp [mB], by simp [mB], by simp [mB], by simp [mB]⟩
theorem okM_T (t : Bool) : okM (mT t) := by
  unfold okM okF
  refine ⟨by unfold isKd mT; simp, by simp [sameP, onlyF, mT, ownB], fun e => by simp [mT] at e, fun e => by simp [mT] at e, fun e => by simp [mT] at e, fun e => by simp [mT] at e⟩
theorem okM_N (n : Int) : okM (mN n) := by
  unfold okM okF
  refine ⟨by unfold isKd mN; simp, by simp [sameP, onlyF, mN, ownB], fun e => by simp [mN] at e, fun e => by simp [mN] at e, fun e => by simp [mN] at e, fun e => by simp [mN] at e⟩
theorem okP_B (v : Value) {lb : List Int} (h : lb.length ≤ 65536) : okP (mB v, lb) := by
  unfold okP okF
  refine ⟨by unfold isKd mB; simp, by simp [sameP, onlyF, mB, ownB], fun _ => h, fun e => by simp [mB] at e, fun e => by simp [mB] at e, fun e => by simp [mB] at e⟩
def Plain (f : Fd) : Prop := f.b = nilB ∧ f.k ≠ 4 ∧ FdA f ∧ okM f
theorem pl_T (t : Bool) : Plain (mT t) := ⟨rfl, by simp [mT], mT_a t, okM_T t⟩
theorem pl_I {n : Int} (h : i64R n) : Plain (mI n) := ⟨rfl, by simp [mI], mI_a h, okM_I n⟩
theorem pl_N {n : Int} (h : u64R n) : Plain (mN n) := ⟨rfl, by simp [mN], mN_a h, okM_N n⟩
theorem pl_V {wl wb : Int} (h : 0 ≤ wb) (ok : okV wl wb) : Plain (mV wl wb) := ⟨rfl, by simp [mV], mV_a h, (okM_V _ _).2 ok⟩
theorem pl_R {r : Rf} (h1 : i64R r.id) (h2 : u64R r.n) (h3 : 0 ≤ r.bt) (ok : okRf r) : Plain (mR r) := ⟨rfl, by simp [mR], mR_a h1 h2 h3, (okM_R _).2 ok⟩
theorem pl_side {r : Rf} (h1 : i64R r.id) (h2 : u64R r.n) (h3 : 0 ≤ r.bt) (ok : okS r) : ∀ f ∈ sideF r, Plain f := by
  unfold sideF
  split
  · intro f hf
    cases List.mem_singleton.1 hf
    exact pl_T _
  · rename_i hz
    intro f hf
    rcases List.mem_cons.1 hf with rfl | hf
    · exact pl_T _
    · cases List.mem_singleton.1 hf
      exact pl_R h1 h2 h3 (ok.resolve_left hz)
theorem encF_plain {p : Pk} {x : ByteArray} {n : Nat} (hA : PkA p) (hR : PkR p) (ok : okPk p x n) : ∀ f ∈ encF p, Plain f ∨ f = mB p.ans.v := by
  intro f hf
  unfold encF at hf
  rcases List.mem_append.1 hf with hf | hf
  · left
    simp only [List.mem_cons, List.not_mem_nil, or_false] at hf
    rcases hf with rfl | rfl | rfl | rfl | rfl | rfl
    · exact pl_T _
    · exact pl_T _
    · exact pl_I hR.fn
    · exact pl_T _
    · exact pl_I hR.tn
    · exact pl_I hR.id
  · obtain ⟨_, ok⟩ := ok
    split at hf
    · rename_i hrep
      have okn : okN p.ans x n := by
        rcases ok with ⟨_, _, h⟩ | ⟨h, _⟩
        · exact h
        · rw [hrep] at h; cases h
      unfold ansF at hf
      rcases List.mem_cons.1 hf with rfl | hf
      · left
        refine pl_N ?_
        rcases okn with ⟨h, _⟩ | ⟨h, _⟩ | ⟨h | h, _⟩ <;> rw [h] <;> exact ⟨by decide, by decide⟩
      · rcases List.mem_append.1 hf with hf | hf
        · left
          split at hf
          · rename_i hk
            have hs : okS p.ans.l ∧ okS p.ans.r := by
              rcases okn with ⟨_, h1, h2, _⟩ | ⟨_, h1, h2, _⟩ | ⟨h, _⟩
              · exact ⟨h1, h2⟩
              · exact ⟨h1, h2⟩
              · omega
            rcases List.mem_cons.1 hf with rfl | hf
            · exact pl_T _
            · rcases List.mem_append.1 hf with hf | hf
              · exact pl_side hR.lid hR.ln hA.l hs.1 f hf
              · exact pl_side hR.aid hR.an hA.ar hs.2 f hf
          · cases hf
        · split at hf
          · exact .inr (List.mem_singleton.1 hf)
          · cases hf
    · rename_i hrep
      have oka : okA p.ask := by
        rcases ok with ⟨h, _⟩ | ⟨_, _, h⟩
        · exact absurd h hrep
        · exact h
      left
      unfold askF at hf
      rw [fieldsA_ok oka] at hf
      obtain ⟨hk, _, hw, hr, h7⟩ := oka
      rcases List.mem_cons.1 hf with rfl | hf
      · exact pl_N ⟨by omega, by omega⟩
      · simp only [Option.getD_some] at hf
        unfold hasF at hf
        have V : hasW p.ask.k → Plain (mV p.ask.wl p.ask.wb) := fun h => pl_V hA.wb (hw h)
        have R : hasR p.ask.k → Plain (mR p.ask.r) := fun h => pl_R hR.rid hR.rn hA.r (hr h)
        have R2 : p.ask.k = 7 → Plain (mR p.ask.r2) := fun h => pl_R hR.r2id hR.r2n hA.r2 (h7 h)
        have O1 : Plain (mI p.ask.oa) := pl_I hR.oa
        have O2 : Plain (mI p.ask.oo) := pl_I hR.oo
        split at hf
        · rename_i h
          cases List.mem_singleton.1 hf
          exact V (.inl h)
        · split at hf
          · rename_i h
            simp only [List.mem_cons, List.not_mem_nil, or_false] at hf
            rcases hf with rfl | rfl | rfl
            · exact V (by unfold hasW; omega)
            · exact O1
            · exact O2
          · split at hf
            · rename_i h
              simp only [List.mem_cons, List.not_mem_nil, or_false] at hf
              rcases hf with rfl | rfl | rfl | rfl
              · exact V (by unfold hasW; omega)
              · exact R (by unfold hasR; omega)
              · exact O1
              · exact O2
            · split at hf
              · rename_i h
                simp only [List.mem_cons, List.not_mem_nil, or_false] at hf
                rcases hf with rfl | rfl
                · exact V (by unfold hasW; omega)
                · exact R (by unfold hasR; omega)
              · split at hf
                · rename_i h
                  simp only [List.mem_cons, List.not_mem_nil, or_false] at hf
                  rcases hf with rfl | rfl | rfl | rfl | rfl
                  · exact V (by unfold hasW; omega)
                  · exact R (by unfold hasR; omega)
                  · exact R2 h
                  · exact O1
                  · exact O2
                · cases hf
def fb (lb : List Int) (f : Fd) : FB := (f, if f.k = 4 then lb else [])
theorem fl_of {n0 : Nat} {s : St} {v w : Value} {fs : List Fd} {lb : List Int} (hF : Fresh s) (h : Ful n0 s 14 v (fs.map Fd.cs)) (hw : Byt s w (br lb)) (hp : ∀ f ∈ fs, Plain f ∨ f = mB w) : FL s.n s v (fs.map (fb lb)) := by
  refine ⟨?_, fun q hq => ?_⟩
  · have : (fs.map (fb lb)).map (fun p => p.1.cs) = fs.map Fd.cs := by rw [List.map_map]; rfl
    rw [this]
    exact h.isR.pers hF
  · obtain ⟨f, hf, rfl⟩ := List.mem_map.1 hq
    rcases hp f hf with ⟨h1, h2, h3, _⟩ | rfl
    · refine ⟨h3, ?_⟩
      simp only [fb, if_neg h2, h1]
      exact (byt_nil s).pers hF
    · refine ⟨mB_a w, ?_⟩
      have : (if (mB w).k = 4 then lb else []) = lb := rfl
      simp only [fb, this]
      exact hw.pers hF
theorem all_ok {w : Value} {fs : List Fd} {lb : List Int} (hl : lb.length ≤ 65536) (hp : ∀ f ∈ fs, Plain f ∨ f = mB w) : ∀ q ∈ fs.map (fb lb), okP q := by
  intro q hq
  obtain ⟨f, hf, rfl⟩ := List.mem_map.1 hq
  rcases hp f hf with ⟨h1, h2, h3, h4⟩ | rfl
  · unfold fb
    rw [if_neg h2]
    exact h4
  · exact okP_B w hl
def EncIs (s : St) (p : Pk) (lb : List Int) (r : Option (Value × St)) : Prop := ∃ w s', r = some (.tuple ⟨[w, .int .i64 0]⟩, s') ∧ More s s' ∧ Ful s.n s' 1 w (br (wBs ((encF p).map (fb lb)))) ∧ Fresh s'
end Go.Proofs.Yteapmnolmfickaa
