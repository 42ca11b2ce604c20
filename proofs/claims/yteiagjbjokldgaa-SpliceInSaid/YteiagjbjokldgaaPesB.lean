/-
  Graphs, plainly: which may be, the rows of their lists, by keys.
-/
import Derived.Test.YteiagjbjokldgaaPesA
set_option linter.unusedSimpArgs false
set_option linter.unusedVariables false
set_option maxRecDepth 100000
set_option maxHeartbeats 2000000
namespace Go.Proofs.Yteiagjbjokldgaa
open Go.Sim Go.Sim.Bt

abbrev ltF (a b : Rf) : Prop := lessK a.rk a.n b.rk b.n
def lessF (a b : Rf) : Bool := decide (ltF a b)
theorem lessF_iff {a b : Rf} : lessF a b = true ↔ ltF a b := by unfold lessF; simp
theorem ltF_trans {a b c : Rf} (h : ltF a b) (k : ltF b c) : ltF a c := by unfold ltF lessK at *; omega
theorem ltF_asym {a b : Rf} (h : ltF a b) : ¬ ltF b a := by unfold ltF lessK at *; omega
def keyF (a b : Rf) : Prop := a.rk = b.rk ∧ a.n = b.n
instance (a b : Rf) : Decidable (keyF a b) := by unfold keyF; infer_instance
theorem ltF_total {a b : Rf} (h : ¬ keyF a b) : ltF a b ∨ ltF b a := by unfold ltF lessK keyF at *; omega
def insF (x : Rf) (l : List Rf) : List Rf := l.takeWhile (fun y => lessF y x) ++ x :: l.dropWhile (fun y => lessF y x)
def srtF (l : List Rf) : List Rf := l.foldl (fun out x => insF x out) []
theorem insF_len (x : Rf) (l : List Rf) : (insF x l).length = l.length + 1 := by
  have := congrArg List.length (List.takeWhile_append_dropWhile (p := fun y => lessF y x) (l := l))
  unfold insF
  rw [List.length_append] at this
  rw [List.length_append, List.length_cons]
  omega
theorem insF_mem {x y : Rf} {l : List Rf} : y ∈ insF x l ↔ y = x ∨ y ∈ l := by
  have h := List.takeWhile_append_dropWhile (p := fun y => lessF y x) (l := l)
  unfold insF
  rw [List.mem_append, List.mem_cons]
  constructor
  · rintro (g | g | g)
    · exact .inr (by rw [← h]; exact List.mem_append.2 (.inl g))
    · exact .inl g
    · exact .inr (by rw [← h]; exact List.mem_append.2 (.inr g))
  · rintro (g | g)
    · exact .inr (.inl g)
    · rw [← h, List.mem_append] at g
      rcases g with g | g
      · exact .inl g
      · exact .inr (.inr g)
theorem drop_up {x : Rf} : ∀ {l : List Rf}, l.Pairwise ltF → (∀ y ∈ l, ¬ keyF y x) → ∀ y ∈ l.dropWhile (fun y => lessF y x), ltF x y
  | [], _, _, y, hy => by simp at hy
  | z :: l, h, k, y, hy => by
    rw [List.pairwise_cons] at h
    rw [List.dropWhile_cons] at hy
    split at hy
    · exact drop_up h.2 (fun w hw => k w (List.mem_cons_of_mem _ hw)) y hy
    · rename_i g
      have hz : ltF x z := by
        rcases ltF_total (k z (List.mem_cons_self ..)) with q | q
        · exact absurd (lessF_iff.2 q) g
        · exact q
      rcases List.mem_cons.1 hy with rfl | hy
      · exact hz
      · exact ltF_trans hz (h.1 y hy)
theorem take_lo {x : Rf} : ∀ {l : List Rf}, ∀ y ∈ l.takeWhile (fun y => lessF y x), ltF y x
  | [], y, hy => by simp at hy
  | z :: l, y, hy => by
    rw [List.takeWhile_cons] at hy
    split at hy
    · rename_i g
      rcases List.mem_cons.1 hy with rfl | hy
      · exact lessF_iff.1 g
      · exact take_lo y hy
    · simp at hy
theorem insF_up {x : Rf} {l : List Rf} (h : l.Pairwise ltF) (k : ∀ y ∈ l, ¬ keyF y x) : (insF x l).Pairwise ltF := by
  have e := List.takeWhile_append_dropWhile (p := fun y => lessF y x) (l := l)
  have h' := h
  rw [← e, List.pairwise_append] at h'
  unfold insF
  rw [List.pairwise_append, List.pairwise_cons]
  refine ⟨h'.1, ⟨drop_up h k, h'.2.1⟩, fun a ha b hb => ?_⟩
  rcases List.mem_cons.1 hb with rfl | hb
  · exact take_lo a ha
  · exact h'.2.2 a ha b hb
theorem srtF_snoc (l : List Rf) (x : Rf) : srtF (l ++ [x]) = insF x (srtF l) := by unfold srtF; rw [List.foldl_append]; rfl
theorem srtF_nil : srtF [] = [] := rfl
theorem foldl_ins {l : List Rf} : ∀ {out : List Rf}, out.Pairwise ltF → l.Pairwise (fun a b => ¬ keyF a b) → (∀ a ∈ out, ∀ b ∈ l, ¬ keyF a b) →
    (l.foldl (fun out x => insF x out) out).Pairwise ltF ∧ (∀ y, y ∈ l.foldl (fun out x => insF x out) out ↔ y ∈ out ∨ y ∈ l) ∧ (l.foldl (fun out x => insF x out) out).length = out.length + l.length := by
  induction l with
  | nil => intro out h _ _; exact ⟨h, fun y => by simp, by simp⟩
  | cons x l ih =>
    intro out h k q
    rw [List.pairwise_cons] at k
    obtain ⟨i1, i2, i3⟩ := ih (out := insF x out) (insF_up h fun y hy => q y hy x (List.mem_cons_self ..)) k.2 (fun a ha b hb => by
      rcases insF_mem.1 ha with rfl | ha
      · exact k.1 b hb
      · exact q a ha b (List.mem_cons_of_mem _ hb))
    refine ⟨i1, fun y => ?_, ?_⟩
    · rw [List.foldl_cons, i2, insF_mem, List.mem_cons]
      constructor
      · rintro ((g | g) | g)
        · exact .inr (.inl g)
        · exact .inl g
        · exact .inr (.inr g)
      · rintro (g | g | g)
        · exact .inl (.inr g)
        · exact .inl (.inl g)
        · exact .inr g
    · rw [List.foldl_cons, i3, insF_len, List.length_cons]; omega
theorem srtF_up {l : List Rf} (h : l.Pairwise (fun a b => ¬ keyF a b)) : (srtF l).Pairwise ltF := (foldl_ins .nil h (by simp)).1
theorem srtF_mem {l : List Rf} (h : l.Pairwise (fun a b => ¬ keyF a b)) {y : Rf} : y ∈ srtF l ↔ y ∈ l := by
  have := (foldl_ins (out := []) .nil h (by simp)).2.1 y
  unfold srtF
  simpa using this
theorem foldl_len {l : List Rf} : ∀ {out : List Rf}, (l.foldl (fun out x => insF x out) out).length = out.length + l.length := by
  induction l with
  | nil => intro out; simp
  | cons x l ih => intro out; rw [List.foldl_cons, ih, insF_len, List.length_cons]; omega
theorem srtF_len (l : List Rf) : (srtF l).length = l.length := by
  have := foldl_len (l := l) (out := [])
  simpa [srtF] using this

/-! ### Rows -/

open Classical in
noncomputable def inW (wl wb : Int) (r : Rf) : Bool := decide (BG r.ln r.bt wl wb)
noncomputable def memF (wl wb : Int) (l : List Rf) : List Rf := srtF (l.filter (inW wl wb))
noncomputable def rowF (h wl wb : Int) (l : List Rf) : List Rf := endL h :: (memF wl wb l ++ [endR h])
/-- Which members make a graph. -/
structure OkG (h : Int) (l : List Rf) : Prop where
  h0 : 0 ≤ h
  h1 : h ≤ 32
  len : l.length ≤ 1022
  mem : ∀ r ∈ l, 2 ≤ r.id ∧ r.id < 1024 ∧ r.rk = 2 ∧ okV r.ln r.bt ∧ r.ln = h
  ne : l.Pairwise fun a b => ¬ (a.id = b.id ∨ keyF a b)
theorem OkG.key {h : Int} {l : List Rf} (g : OkG h l) : l.Pairwise fun a b => ¬ keyF a b := g.ne.imp fun q k => q (.inr k)
/-- What holds of a row. -/
structure OkRw (h wl wb : Int) (R : List Rf) : Prop where
  h0 : 0 ≤ h
  h1 : h ≤ 32
  hw : okV wl wb
  wh : wl ≤ h
  len : 2 ≤ R.length ∧ R.length ≤ 1024
  first : R[0]? = some (endL h)
  last : R[R.length - 1]? = some (endR h)
  inner : ∀ (j : Nat) r, 0 < j → j + 1 < R.length → R[j]? = some r → r.rk = 2 ∧ r.ln = h ∧ okV r.ln r.bt ∧ BG r.ln r.bt wl wb ∧ 2 ≤ r.id ∧ r.id < 1024
  up : R.Pairwise ltF
  ids : R.Pairwise fun a b => a.id ≠ b.id
theorem pairwise_perm_ids {l : List Rf} {h wl wb : Int} (g : OkG h l) : (memF wl wb l).Pairwise fun a b => a.id ≠ b.id := by
  have hk : (l.filter (inW wl wb)).Pairwise (fun a b => ¬ keyF a b) := g.key.filter _
  have hu := srtF_up hk
  unfold memF
  -- two members of one number are one member, and no member stands twice
  refine List.Pairwise.imp_of_mem ?_ hu
  intro a b ha hb hab hid
  rw [srtF_mem hk] at ha hb
  have ha' := (List.mem_filter.1 ha).1
  have hb' := (List.mem_filter.1 hb).1
  obtain ⟨i, hi⟩ := List.getElem?_of_mem ha'
  obtain ⟨j, hj⟩ := List.getElem?_of_mem hb'
  have hil := (List.getElem?_eq_some_iff.1 hi)
  have hjl := (List.getElem?_eq_some_iff.1 hj)
  obtain ⟨hi1, hi2⟩ := hil
  obtain ⟨hj1, hj2⟩ := hjl
  rcases Nat.lt_trichotomy i j with e | e | e
  · exact List.pairwise_iff_getElem.1 g.ne i j hi1 hj1 e (.inl (by rw [hi2, hj2]; exact hid))
  · subst e
    rw [hi2] at hj2
    subst hj2
    exact ltF_asym hab hab
  · exact List.pairwise_iff_getElem.1 g.ne j i hj1 hi1 e (.inl (by rw [hi2, hj2]; exact hid.symm))
theorem memF_mem {h : Int} {l : List Rf} (g : OkG h l) {wl wb : Int} {r : Rf} : r ∈ memF wl wb l ↔ r ∈ l ∧ BG r.ln r.bt wl wb := by
  unfold memF
  rw [srtF_mem (g.key.filter _), List.mem_filter]
  unfold inW
  simp
theorem memF_len (wl wb : Int) (l : List Rf) : (memF wl wb l).length ≤ l.length := by
  unfold memF
  rw [srtF_len]
  exact List.length_filter_le ..
theorem row_ok {h wl wb : Int} {l : List Rf} (g : OkG h l) (hw : okV wl wb) (wh : wl ≤ h) : OkRw h wl wb (rowF h wl wb l) := by
  have hl := memF_len wl wb l
  have hg := g.len
  have hlen : (rowF h wl wb l).length = (memF wl wb l).length + 2 := by unfold rowF; simp
  have hin : ∀ (j : Nat) r, 0 < j → j + 1 < (rowF h wl wb l).length → (rowF h wl wb l)[j]? = some r → r ∈ memF wl wb l := by
    intro j r h1 h2 hr
    unfold rowF at hr
    rw [List.getElem?_cons, if_neg (by omega), List.getElem?_append_left (by omega)] at hr
    exact List.mem_of_getElem? hr
  have hmem : ∀ r ∈ memF wl wb l, r.rk = 2 ∧ r.ln = h ∧ okV r.ln r.bt ∧ BG r.ln r.bt wl wb ∧ 2 ≤ r.id ∧ r.id < 1024 := by
    intro r hr
    obtain ⟨m1, m2⟩ := (memF_mem g).1 hr
    obtain ⟨q1, q2, q3, q4, q5⟩ := g.mem r m1
    exact ⟨q3, q5, q4, m2, q1, q2⟩
  refine ⟨g.h0, g.h1, hw, wh, by omega, rfl, ?_, fun j r h1 h2 hr => hmem r (hin j r h1 h2 hr), ?_, ?_⟩
  · rw [hlen]
    unfold rowF
    rw [show (memF wl wb l).length + 2 - 1 = (memF wl wb l).length + 1 by omega, List.getElem?_cons_succ, List.getElem?_append_right (Nat.le_refl _), Nat.sub_self]
    rfl
  · unfold rowF
    rw [List.pairwise_cons, List.pairwise_append]
    refine ⟨fun r hr => ?_, srtF_up (g.key.filter _), List.pairwise_singleton _ _, fun a ha b hb => ?_⟩
    · rcases List.mem_append.1 hr with hr | hr
      · have := (hmem r hr).1
        unfold ltF lessK; left; show (1 : Int) < r.rk; omega
      · rw [List.mem_singleton] at hr; subst hr
        unfold ltF lessK; left; show (1 : Int) < 3; omega
    · rw [List.mem_singleton] at hb; subst hb
      have := (hmem a ha).1
      unfold ltF lessK; left; show _ < (3 : Int); omega
  · unfold rowF
    rw [List.pairwise_cons, List.pairwise_append]
    refine ⟨fun r hr => ?_, pairwise_perm_ids g, List.pairwise_singleton _ _, fun a ha b hb => ?_⟩
    · rcases List.mem_append.1 hr with hr | hr
      · have := (hmem r hr).2.2.2.2.1
        show (0 : Int) ≠ r.id; omega
      · rw [List.mem_singleton] at hr; subst hr
        show (0 : Int) ≠ 1; decide
    · rw [List.mem_singleton] at hb; subst hb
      have := (hmem a ha).2.2.2.2.1
      show a.id ≠ (1 : Int); omega
/-- A row with one more. -/
theorem row_more {h wl wb : Int} {l : List Rf} {me : Rf} (hb : BG me.ln me.bt wl wb) (h2 : me.rk = 2) :
    rowF h wl wb (l ++ [me]) = (rowF h wl wb l).takeWhile (fun y => lessF y me) ++ me :: (rowF h wl wb l).dropWhile (fun y => lessF y me) := by
  have hi : inW wl wb me = true := by unfold inW; simp [hb]
  have e1 : lessF (endL h) me = true := lessF_iff.2 (by unfold ltF lessK; left; show (1 : Int) < _; omega)
  have e2 : lessF (endR h) me = false := by
    cases k : lessF (endR h) me
    · rfl
    · have := lessF_iff.1 k
      unfold ltF lessK at this
      rw [h2] at this
      simp only at this
      omega
  have em : memF wl wb (l ++ [me]) = insF me (memF wl wb l) := by
    unfold memF
    rw [List.filter_append]
    simp only [List.filter_cons, hi, if_true, List.filter_nil]
    exact srtF_snoc _ _
  have tw : ∀ m : List Rf, (m ++ [endR h]).takeWhile (fun y => lessF y me) = m.takeWhile (fun y => lessF y me) ∧ (m ++ [endR h]).dropWhile (fun y => lessF y me) = m.dropWhile (fun y => lessF y me) ++ [endR h] := by
    intro m
    induction m with
    | nil => simp [List.takeWhile_cons, List.dropWhile_cons, e2]
    | cons x m ih =>
      simp only [List.cons_append, List.takeWhile_cons, List.dropWhile_cons]
      cases lessF x me
      · simp
      · simp [ih.1, ih.2]
  unfold rowF
  rw [em]
  simp only [List.takeWhile_cons, List.dropWhile_cons, e1, if_true, (tw _).1, (tw _).2]
  unfold insF
  simp
end Go.Proofs.Yteiagjbjokldgaa
