/-
  Asks: which may be, by the program.
-/
import Derived.Test.YteapmnolmfickaaMsgA
set_option linter.unusedSimpArgs false
set_option linter.unusedVariables false
set_option maxRecDepth 100000
set_option maxHeartbeats 4000000
namespace Go.Proofs.Yteapmnolmfickaa
open Go.Sim Go.Sim.Bt
attribute [local congr] bdc cndc itec gdc gdSc gdUc

/-- Whole numbers as rows. -/
def ki (l : List Int) : List (List Value) := l.map fun k => [.int .i64 k]
theorem ki_snoc (l : List Int) (k : Int) : ki (l ++ [k]) = ki l ++ [[.int .i64 k]] := by simp [ki]
theorem ki_app (l m : List Int) : ki (l ++ m) = ki l ++ ki m := by simp [ki]
/-- Many rows appended. -/
theorem app_many {s0 s : St} {sz by_ : Nat} {v w : Value} {rows news : List (List Value)} (f : Fresh s) (h : Ful s0.n s sz v rows) (m : More s0 s) (hl : lenV w = some news.length) (hr : rowsOf s sz news.length w = some news) (hb : (rows.length + news.length) * by_ ≤ 140737488355328) (hlm : rows.length + news.length ≤ 9223372036854775807) (e0 : 0 < news.length) :
    ∃ v' s', app s sz by_ v w = some (v', s') ∧ More s0 s' ∧ Ful s0.n s' sz v' (rows ++ news) ∧ Fresh s' := by
  rcases h with ⟨rfl, rfl⟩ | ⟨b, e, h0, rfl, hg, he⟩
  · refine ⟨_, _, app_nil hl hr e0 (by simpa using hb) (by simpa using hlm), m.trans .new, .inr ⟨s.n, 1, m.n, by simp, get_new_same, .inl rfl⟩, f.new⟩
  · rcases he with rfl | rfl
    · refine ⟨_, _, app_own hl hr hg (Nat.le_refl _) e0 hb hlm, (m.del h0).trans .new, .inr ⟨s.n, 1, m.n, by simp, ?_, .inl rfl⟩, f.del.new⟩
      rw [List.take_length]; exact get_new_same (s := s.del b)
    · refine ⟨_, _, app_full hl hr hg (by omega) (by omega) (by omega) hb hlm, m.trans .new, .inr ⟨s.n, 1, m.n, by simp, ?_, .inl rfl⟩, f.new⟩
      simp only [List.drop_zero, List.take_length]
      exact get_new_same
/-- What Go's needs gives. -/
def needsP (k : Int) : Option (List Int) :=
  if k = 1 then some [5] else if k = 3 ∨ k = 4 ∨ k = 8 then some [5, 2, 2] else if k = 5 then some [5, 7, 2, 2] else if k = 6 then some [5, 7] else if k = 7 then some [5, 7, 7, 2, 2]
  else if k = 2 ∨ k = 9 ∨ k = 10 then some [] else none
def NdIs (s : St) (r : Option (Value × St)) : Option (List Int) → Prop
  | some l => ∃ v s', r = some (.tuple ⟨[v, .bool true]⟩, s') ∧ More s s' ∧ Ful s.n s' 1 v (ki l) ∧ Fresh s'
  | none => r = some (.tuple ⟨[.slice none 0 0, .bool false]⟩, s)
theorem one_more {s0 s : St} {v : Value} {l : List Int} (k : Int) (f : Fresh s) (h : Ful s0.n s 1 v (ki l)) (m : More s0 s) (hl : l.length ≤ 100) :
    ∃ v' s', app (s.new (.row 1 [[.int .i64 k]] false)) 1 8 v (.slice (some ⟨s.n, 0, some 0⟩) 1 2) = some (v', s') ∧ More s0 s' ∧ Ful s0.n s' 1 v' (ki (l ++ [k])) ∧ Fresh s' := by
  have hk : (ki l).length = l.length := by simp [ki]
  obtain ⟨v', s', h1, h2, h3, h4, _⟩ := push f h m (by_ := 8) [.int .i64 k] (by omega) (by omega)
  exact ⟨v', s', h1, h2, by rw [ki_snoc]; exact h3, h4⟩
theorem two_more {s0 s : St} {v : Value} {l : List Int} (k k2 : Int) (f : Fresh s) (h : Ful s0.n s 1 v (ki l)) (m : More s0 s) (hl : l.length ≤ 100) :
    ∃ v' s', app (s.new (.row 1 [[.int .i64 k], [.int .i64 k2]] false)) 1 8 v (.slice (some ⟨s.n, 0, some 0⟩) 2 4) = some (v', s') ∧ More s0 s' ∧ Ful s0.n s' 1 v' (ki (l ++ [k, k2])) ∧ Fresh s' := by
  have hk : (ki l).length = l.length := by simp [ki]
  have m1 : More s (s.new (.row 1 [[.int .i64 k], [.int .i64 k2]] false)) := .new
  have hr : rowsOf (s.new (.row 1 [[.int .i64 k], [.int .i64 k2]] false)) 1 2 (.slice (some ⟨s.n, 0, some 0⟩) 2 4) = some [[.int .i64 k], [.int .i64 k2]] := by
    rw [rowsOf_row get_new_same (Nat.le_refl _) (by simp)]; rfl
  obtain ⟨v', s', h1, h2, h3, h4⟩ := app_many (by_ := 8) (m1.fresh f) (h.more m1 f) (m.trans m1) (news := [[.int .i64 k], [.int .i64 k2]]) rfl hr (by simp; omega) (by simp; omega) (by simp)
  exact ⟨v', s', h1, h2, by rw [ki_app]; exact h3, h4⟩
/-- `append([]kind{5}, l...)`. -/
theorem head_more {s0 s : St} {v : Value} {l : List Int} (k : Int) (f : Fresh s) (h : Ful s0.n s 1 v (ki l)) (m : More s0 s) (hl : l.length ≤ 100) :
    ∃ v' s', app (s.new (.row 1 [[.int .i64 k]] false)) 1 8 (.slice (some ⟨s.n, 0, some 0⟩) 1 2) v = some (v', s') ∧ More s0 s' ∧ Ful s0.n s' 1 v' (ki (k :: l)) ∧ Fresh s' := by
  have hk : (ki l).length = l.length := by simp [ki]
  have m1 : More s (s.new (.row 1 [[.int .i64 k]] false)) := .new
  have f1 := m1.fresh f
  have hb : Ful s0.n (s.new (.row 1 [[.int .i64 k]] false)) 1 (.slice (some ⟨s.n, 0, some 0⟩) 1 2) [[.int .i64 k]] := .inr ⟨s.n, 2, m.n, rfl, get_new_same, .inr rfl⟩
  have hv := h.more m1 f
  have hg : (s.new (.row 1 [[.int .i64 k]] false)).get s.n = some (.row 1 [[.int .i64 k]] false) := get_new_same
  generalize s.new (.row 1 [[.int .i64 k]] false) = s1 at *
  by_cases h0 : l = []
  · subst h0
    refine ⟨.slice (some ⟨s.n, 0, some 0⟩) 1 2, s1.put s.n (.row 1 [[.int .i64 k]] false), ?_, (m.trans m1).put m.n, .inr ⟨s.n, 2, m.n, rfl, get_put_same hg, .inr rfl⟩, f1.put⟩
    rcases hv with ⟨rfl, e⟩ | ⟨b, e, g0, rfl, gg, ge⟩
    · simp [app, lenV, rowsOf, hg]
    · have : rowsOf s1 1 0 (.slice (some ⟨b, 0, some 0⟩) (ki []).length e) = some [] := by
        rw [rowsOf_row gg (Nat.zero_le _) (by simp)]; rfl
      have e1 : lenV (.slice (some ⟨b, 0, some 0⟩) (ki []).length e) = some 0 := rfl
      simp [app, e1, this, hg]
  · have hpos : 0 < (ki l).length := by rw [hk]; exact List.length_pos_iff.2 h0
    have e1 : lenV v = some (ki l).length := by
      rcases hv with ⟨rfl, e⟩ | ⟨b, e, g0, rfl, gg, ge⟩
      · rw [e]; rfl
      · rfl
    have e2 : rowsOf s1 1 (ki l).length v = some (ki l) := by
      rcases hv with ⟨rfl, e⟩ | ⟨b, e, g0, rfl, gg, ge⟩
      · rw [e]; rfl
      · rw [rowsOf_row gg (Nat.le_refl _) (by omega)]; simp
    obtain ⟨v', s', g1, g2, g3, g4⟩ := app_many (by_ := 8) f1 hb (m.trans m1) e1 e2 (by simp; omega) (by simp; omega) hpos
    exact ⟨v', s', g1, g2, g3, g4⟩
theorem needs_v {s : St} (k : Int) (f : Fresh s) : NdIs s (msg_needs.v (.int .i64 k) s) (needsP k) := by
  have a1 : ∀ (t : St) (x : Int), ((bls 1 (List.replicate 1 [.int .i64 0]) [(0, .int .i64 x)]).bind fun rows => als t 1 1 rows) = some (.slice (some ⟨t.n, 0, some 0⟩) 1 2, t.new (.row 1 [[.int .i64 x]] false)) := fun _ _ => rfl
  have a2 : ∀ (t : St) (x y : Int), ((bls 1 (List.replicate 2 [.int .i64 0]) [(0, .int .i64 x), (1, .int .i64 y)]).bind fun rows => als t 1 2 rows) = some (.slice (some ⟨t.n, 0, some 0⟩) 2 4, t.new (.row 1 [[.int .i64 x], [.int .i64 y]] false)) := fun _ _ _ => rfl
  have nl : Ful s.n s 1 (.slice none 0 0) (ki []) := .inl ⟨rfl, rfl⟩
  unfold needsP
  by_cases h1 : k = 1
  · rw [if_pos h1]
    obtain ⟨v, s1, p1, p2, p3, p4⟩ := head_more 5 f nl (.refl s) (by simp)
    refine ⟨v, s1, ?_, p2, p3, p4⟩
    subst h1
    simp only [msg_needs.v, msg_needs.t, std_bd, std_cnd, eqb1, Int.reduceEq, decide_true, decide_false, bds, cndt, cndf, reduceIte, Nat.reduceEqDiff, List.getD_cons_zero, List.getD_cons_succ, a1, p1]
  rw [if_neg h1]
  by_cases h3 : k = 3 ∨ k = 4 ∨ k = 8
  · rw [if_pos h3]
    obtain ⟨v, s1, p1, p2, p3, p4⟩ := two_more 2 2 f nl (.refl s) (by simp)
    obtain ⟨w, s2, q1, q2, q3, q4⟩ := head_more 5 p4 p3 p2 (by simp)
    refine ⟨w, s2, ?_, q2, q3, q4⟩
    rcases h3 with rfl | rfl | rfl <;>
      simp only [msg_needs.v, msg_needs.t, std_bd, std_cnd, eqb1, Int.reduceEq, decide_true, decide_false, bds, cndt, cndf, reduceIte, Nat.reduceEqDiff, List.getD_cons_zero, List.getD_cons_succ, a1, a2, p1, q1]
  rw [if_neg h3]
  by_cases h5 : k = 5
  · rw [if_pos h5]
    obtain ⟨u, s0, o1, o2, o3, o4⟩ := one_more 7 f nl (.refl s) (by simp)
    obtain ⟨v, s1, p1, p2, p3, p4⟩ := two_more 2 2 o4 o3 o2 (by simp)
    obtain ⟨w, s2, q1, q2, q3, q4⟩ := head_more 5 p4 p3 p2 (by simp)
    refine ⟨w, s2, ?_, q2, q3, q4⟩
    subst h5
    simp only [msg_needs.v, msg_needs.t, std_bd, std_cnd, eqb1, Int.reduceEq, decide_true, decide_false, bds, cndt, cndf, reduceIte, Nat.reduceEqDiff, List.getD_cons_zero, List.getD_cons_succ, a1, a2, o1, p1, q1]
  rw [if_neg h5]
  by_cases h6 : k = 6
  · rw [if_pos h6]
    obtain ⟨v, s1, p1, p2, p3, p4⟩ := two_more 5 7 f nl (.refl s) (by simp)
    refine ⟨v, s1, ?_, p2, p3, p4⟩
    subst h6
    simp only [msg_needs.v, msg_needs.t, std_bd, std_cnd, eqb1, Int.reduceEq, decide_true, decide_false, bds, cndt, cndf, reduceIte, Nat.reduceEqDiff, List.getD_cons_zero, List.getD_cons_succ, a1, a2, p1]
  rw [if_neg h6]
  by_cases h7 : k = 7
  · rw [if_pos h7]
    obtain ⟨u, s0, o1, o2, o3, o4⟩ := one_more 7 f nl (.refl s) (by simp)
    obtain ⟨u', s0', o1', o2', o3', o4'⟩ := one_more 7 o4 o3 o2 (by simp)
    obtain ⟨v, s1, p1, p2, p3, p4⟩ := two_more 2 2 o4' o3' o2' (by simp)
    obtain ⟨w, s2, q1, q2, q3, q4⟩ := head_more 5 p4 p3 p2 (by simp)
    refine ⟨w, s2, ?_, q2, q3, q4⟩
    subst h7
    simp only [msg_needs.v, msg_needs.t, std_bd, std_cnd, eqb1, Int.reduceEq, decide_true, decide_false, bds, cndt, cndf, reduceIte, Nat.reduceEqDiff, List.getD_cons_zero, List.getD_cons_succ, a1, a2, o1, o1', p1, q1]
  rw [if_neg h7]
  by_cases h2 : k = 2 ∨ k = 9 ∨ k = 10
  · rw [if_pos h2]
    refine ⟨.slice none 0 0, s, ?_, .refl s, nl, f⟩
    rcases h2 with rfl | rfl | rfl <;>
      simp only [msg_needs.v, msg_needs.t, std_bd, std_cnd, eqb1, Int.reduceEq, decide_true, decide_false, bds, cndt, cndf, reduceIte, Nat.reduceEqDiff, List.getD_cons_zero, List.getD_cons_succ]
  · rw [if_neg h2]
    have h3' : ¬ k = 3 := fun e => h3 (.inl e)
    have h4' : ¬ k = 4 := fun e => h3 (.inr (.inl e))
    have h8' : ¬ k = 8 := fun e => h3 (.inr (.inr e))
    have h2' : ¬ k = 2 := fun e => h2 (.inl e)
    have h9' : ¬ k = 9 := fun e => h2 (.inr (.inl e))
    have h10' : ¬ k = 10 := fun e => h2 (.inr (.inr e))
    show msg_needs.v _ s = _
    simp only [msg_needs.v, msg_needs.t, std_bd, std_cnd, eqb1, h1, h2', h3', h4', h5, h6, h7, h8', h9', h10', decide_false, bds, cndt, cndf, reduceIte, Nat.reduceEqDiff, List.getD_cons_zero, List.getD_cons_succ]

/-! ### The fields of an ask -/

def mV (wl wb : Int) : Fd := ⟨5, 0, 0, false, nilB, wl, wb, 0, 0, 0, 0, 0, 0, 0⟩
def mR (r : Rf) : Fd := ⟨7, 0, 0, false, nilB, 0, 0, 0, 0, r.id, r.rk, r.n, r.ln, r.bt⟩
def mI (i : Int) : Fd := ⟨2, 0, i, false, nilB, 0, 0, 0, 0, 0, 0, 0, 0, 0⟩
def fieldOf (a : AskP) (k : Int) (ri ii : Nat) : Fd := if k = 5 then mV a.wl a.wb else if k = 7 then mR (if ri = 0 then a.r else a.r2) else mI (if ii = 0 then a.oa else a.oo)
def okM (f : Fd) : Prop := okF f noB 0
open Classical in
noncomputable def askL (a : AskP) : List Int → Nat → Nat → List Fd → Option (List Fd)
  | [], _, _, out => some out
  | k :: ks, ri, ii, out => if okM (fieldOf a k ri ii) then askL a ks (ri + if k = 7 then 1 else 0) (ii + if k = 2 then 1 else 0) (out ++ [fieldOf a k ri ii]) else none
open Classical in
theorem chkM (f : Fd) (hb : f.b = nilB) (h5 : 0 ≤ f.vb) (h7 : 0 ≤ f.rb) (s : St) : pack_Check.r f.v s = some (.int .i64 (if okM f then 0 else 30)) := by
  have := check_r f (x := noB) (n := 0) s (by rw [hb]; rfl) (by rw [hb]; rfl) (by rw [hb]; rfl) h5 h7
  exact this
theorem okM_V (wl wb : Int) : okM (mV wl wb) ↔ okV wl wb := by
  unfold okM okF
  constructor
  · intro h; exact h.2.2.2.1 rfl
  · intro h
    refine ⟨by unfold isKd mV; simp, by simp [sameP, onlyF, mV, ownB], fun e => by simp [mV] at e, fun _ => h, fun e => by simp [mV] at e, fun e => by simp [mV] at e⟩
theorem okM_R (r : Rf) : okM (mR r) ↔ okRf r := by
  unfold okM okF
  constructor
  · intro h; exact h.2.2.2.2.2 rfl
  · intro h
    refine ⟨by unfold isKd mR; simp, by simp [sameP, onlyF, mR, ownB], fun e => by simp [mR] at e, fun e => by simp [mR] at e, fun e => by simp [mR] at e, fun _ => h⟩
theorem okM_I (i : Int) : okM (mI i) := by
  unfold okM okF
  refine ⟨by unfold isKd mI; simp, by simp [sameP, onlyF, mI, ownB], fun e => by simp [mI] at e, fun e => by simp [mI] at e, fun e => by simp [mI] at e, fun e => by simp [mI] at e⟩
end Go.Proofs.Yteapmnolmfickaa
