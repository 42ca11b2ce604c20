/-
  A packet's fields, plainly; rows of fields appended.
-/
import Derived.Test.YteapmnolmfickaaMsgG
import Derived.Test.YteapmnolmfickaaPakK
set_option linter.unusedSimpArgs false
set_option linter.unusedVariables false
set_option maxRecDepth 100000
set_option maxHeartbeats 4000000
namespace Go.Proofs.Yteapmnolmfickaa
open Go.Sim Go.Sim.Bt
attribute [local congr] bdc cndc itec gdc gdSc gdUc
def mT (t : Bool) : Fd := ⟨3, 0, 0, t, nilB, 0, 0, 0, 0, 0, 0, 0, 0, 0⟩
def mN (n : Int) : Fd := ⟨1, n, 0, false, nilB, 0, 0, 0, 0, 0, 0, 0, 0, 0⟩
def mB (v : Value) : Fd := ⟨4, 0, 0, false, v, 0, 0, 0, 0, 0, 0, 0, 0, 0⟩
open Classical in
noncomputable def sideF (r : Rf) : List Fd := if r = zR then [mT false] else [mT true, mR r]
open Classical in
noncomputable def ansF (a : Ans) : List Fd := mN a.k :: ((if a.k = 1 ∨ a.k = 3 then mT a.f :: (sideF a.l ++ sideF a.r) else []) ++ if a.k = 1 then [mB a.v] else [])
noncomputable def askF (a : AskP) : List Fd := mN a.k :: (fieldsA a).getD []
noncomputable def encF (p : Pk) : List Fd := [mT p.rep, mT p.fa, mI p.fn, mT p.ta, mI p.tn, mI p.id] ++ if p.rep = true then ansF p.ans else askF p.ask
theorem app_any {s0 s : St} {sz by_ : Nat} {v w : Value} {rows news : List (List Value)} (f : Fresh s) (h : Ful s0.n s sz v rows) (m : More s0 s) (hl : lenV w = some news.length) (hr : rowsOf s sz news.length w = some news) (hb : (rows.length + news.length) * by_ ≤ 140737488355328) (hlm : rows.length + news.length ≤ 9223372036854775807) :
    ∃ v' s', app s sz by_ v w = some (v', s') ∧ More s0 s' ∧ Ful s0.n s' sz v' (rows ++ news) ∧ Fresh s' := by
  rcases Nat.eq_zero_or_pos news.length with e0 | e0
  · have en : news = [] := List.eq_nil_of_length_eq_zero e0
    subst en
    rw [List.append_nil]
    simp only [List.length_nil, Nat.add_zero] at hl hr hb hlm
    rcases h with ⟨rfl, rfl⟩ | ⟨b, e, h0, rfl, hg, he⟩
    · exact ⟨_, _, app_nil0 hl hr, m, .inl ⟨rfl, rfl⟩, f⟩
    · rcases he with rfl | rfl
      · refine ⟨.slice (some ⟨b, 0, some 0⟩) rows.length 1, s, ?_, m, .inr ⟨b, 1, h0, rfl, hg, .inl rfl⟩, f⟩
        simp only [app, hl, hr, hg]
        rw [if_pos ⟨trivial, by omega⟩, if_pos ⟨by simpa using hb, by omega⟩]
        simp
      · refine ⟨.slice (some ⟨b, 0, some 0⟩) rows.length (2 * rows.length), s.put b (.row sz rows false), ?_, m.put h0, .inr ⟨b, _, h0, rfl, get_put_same hg, .inr rfl⟩, f.put⟩
        simp only [app, hl, hr, hg]
        rw [if_pos ⟨trivial, by omega⟩, if_pos ⟨by simpa using hb, by omega⟩, if_neg (by omega), if_pos (by omega)]
        simp
  · exact app_many f h m hl hr hb hlm e0
theorem flds_more {s0 s : St} {v : Value} {fs gs : List Fd} (f : Fresh s) (h : Ful s0.n s 14 v (fs.map Fd.cs)) (m : More s0 s) (hl : fs.length + gs.length ≤ 100) (hg : 0 < gs.length) :
    ∃ v' s', app (s.new (.row 14 (gs.map Fd.cs) false)) 14 128 v (.slice (some ⟨s.n, 0, some 0⟩) gs.length (2 * gs.length)) = some (v', s') ∧ More s0 s' ∧ Ful s0.n s' 14 v' ((fs ++ gs).map Fd.cs) ∧ Fresh s' := by
  have m1 : More s (s.new (.row 14 (gs.map Fd.cs) false)) := .new
  have hr : rowsOf (s.new (.row 14 (gs.map Fd.cs) false)) 14 (gs.map Fd.cs).length (.slice (some ⟨s.n, 0, some 0⟩) gs.length (2 * gs.length)) = some (gs.map Fd.cs) := by
    rw [rowsOf_row get_new_same (by simp) (by simp), List.drop_zero, List.take_length]
  obtain ⟨v', s', h1, h2, h3, h4⟩ := app_many (by_ := 128) (m1.fresh f) (h.more m1 f) (m.trans m1) (news := gs.map Fd.cs) (by simp [lenV]) hr (by simp; omega) (by simp; omega) (by simpa using hg)
  exact ⟨v', s', h1, h2, by rw [List.map_append]; exact h3, h4⟩
theorem fld_more {s0 s : St} {v : Value} {fs : List Fd} (g : Fd) (f : Fresh s) (h : Ful s0.n s 14 v (fs.map Fd.cs)) (m : More s0 s) (hl : fs.length + 1 ≤ 100) :
    ∃ v' s', app (s.new (.row 14 [g.cs] false)) 14 128 v (.slice (some ⟨s.n, 0, some 0⟩) 1 2) = some (v', s') ∧ More s0 s' ∧ Ful s0.n s' 14 v' ((fs ++ [g]).map Fd.cs) ∧ Fresh s' := flds_more (gs := [g]) f h m hl (by simp)
theorem sl_more {s0 s : St} {n1 : Nat} {v w : Value} {fs gs : List Fd} (f : Fresh s) (h : Ful s0.n s 14 v (fs.map Fd.cs)) (k : Ful n1 s 14 w (gs.map Fd.cs)) (m : More s0 s) (hl : fs.length + gs.length ≤ 100) :
    ∃ v' s', app s 14 128 v w = some (v', s') ∧ More s0 s' ∧ Ful s0.n s' 14 v' ((fs ++ gs).map Fd.cs) ∧ Fresh s' := by
  have e1 : lenV w = some (gs.map Fd.cs).length := by
    rcases k with ⟨rfl, e⟩ | ⟨b, e, g0, rfl, gg, ge⟩
    · rw [e]; rfl
    · rfl
  have e2 : rowsOf s 14 (gs.map Fd.cs).length w = some (gs.map Fd.cs) := by
    rcases k with ⟨rfl, e⟩ | ⟨b, e, g0, rfl, gg, ge⟩
    · rw [e]; rfl
    · rw [rowsOf_row gg (Nat.le_refl _) (by omega), List.drop_zero, List.take_length]
  obtain ⟨v', s', h1, h2, h3, h4⟩ := app_any (by_ := 128) f h m e1 e2 (by simp; omega) (by simp; omega)
  exact ⟨v', s', h1, h2, by rw [List.map_append]; exact h3, h4⟩
def FsIs (s : St) (r : Option (Value × St)) (fs : List Fd) : Prop := ∃ v s', r = some (v, s') ∧ More s s' ∧ Ful s.n s' 14 v (fs.map Fd.cs) ∧ Fresh s'
theorem bls_1 (f : Fd) (s : St) : ((bls 14 (List.replicate 1 [(.int .i64 0), (.int .u64 0), (.int .i64 0), (.bool false), (.slice none 0 0), (.int .i64 0), (.int .u64 0), (.int .i64 0), (.int .u64 0), (.int .i64 0), (.int .i64 0), (.int .u64 0), (.int .i64 0), (.int .u64 0)]) [(0, f.v)]).bind fun rows => als s 14 1 rows) = some (.slice (some ⟨s.n, 0, some 0⟩) 1 2, s.new (.row 14 [f.cs] false)) := rfl
theorem bls_2 (f g : Fd) (s : St) : ((bls 14 (List.replicate 2 [(.int .i64 0), (.int .u64 0), (.int .i64 0), (.bool false), (.slice none 0 0), (.int .i64 0), (.int .u64 0), (.int .i64 0), (.int .u64 0), (.int .i64 0), (.int .i64 0), (.int .u64 0), (.int .i64 0), (.int .u64 0)]) [(0, f.v), (1, g.v)]).bind fun rows => als s 14 2 rows) = some (.slice (some ⟨s.n, 0, some 0⟩) 2 4, s.new (.row 14 [f.cs, g.cs] false)) := rfl
theorem fls_new {s : St} (gs : List Fd) (f : Fresh s) : More s (s.new (.row 14 (gs.map Fd.cs) false)) ∧ Ful s.n (s.new (.row 14 (gs.map Fd.cs) false)) 14 (.slice (some ⟨s.n, 0, some 0⟩) gs.length (2 * gs.length)) (gs.map Fd.cs) ∧ Fresh (s.new (.row 14 (gs.map Fd.cs) false)) :=
  ⟨.new, .inr ⟨s.n, 2 * gs.length, Nat.le_refl _, by simp, get_new_same, .inr (by simp)⟩, f.new⟩
theorem sideF_len (r : Rf) : (sideF r).length ≤ 2 := by unfold sideF; split <;> simp
end Go.Proofs.Yteapmnolmfickaa
