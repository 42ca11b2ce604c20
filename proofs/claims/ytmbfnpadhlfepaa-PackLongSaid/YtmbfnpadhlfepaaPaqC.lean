/-
  There and back, plainly: a field that is read; rows of fields.
-/
import Derived.Test.YtmbfnpadhlfepaaPaqB
set_option linter.unusedSimpArgs false
set_option linter.unusedVariables false
set_option maxRecDepth 100000
set_option maxHeartbeats 4000000
namespace Go.Proofs.Ytmbfnpadhlfepaa
open Go.Sim Go.Sim.Bt

theorem okP_mk {f : Fd} {l : List Int} (k1 : isKd f.k) (sm : sameP (onlyF f) f (ownB f ⟨⟨bts l⟩⟩) ⟨⟨bts l⟩⟩) (h4 : f.k = 4 → l.length ≤ 65536) (h5 : f.k = 5 → okV f.vl f.vb) (h6 : f.k = 6 → okK f.kr f.kn) (h7 : f.k = 7 → okK f.rr f.rn ∧ okV f.rl f.rb) : okP (f, l) := ⟨k1, sm, h4, h5, h6, h7⟩
/-- What a field read is. -/
def Got (bs : List Int) (k : Int) (p q : Nat) (a : FB) : Prop := okP a ∧ okY a.2 ∧ a.1.k = k ∧ Has bs p (wB a.1 a.2) ∧ q = p + (wB a.1 a.2).length
theorem fieldP_r {bs : List Int} (hb : okY bs) {k : Int} {p q : Nat} {a : FB} (hk : isKd k) (h : fieldP bs k p = .ok a q) : Got bs k p q a := by
  have no : okY ([] : List Int) := fun y hy => absurd hy List.not_mem_nil
  have c : k = 1 ∨ k = 2 ∨ k = 3 ∨ k = 4 ∨ k = 5 ∨ k = 6 ∨ k = 7 := by
    have := hk.1; have := hk.2; omega
  rcases c with rfl | rfl | rfl | rfl | rfl | rfl | rfl
  · unfold fieldP at h
    rw [if_pos rfl] at h
    split at h
    · cases h
    · rename_i x q' hx
      cases h
      obtain ⟨e1, e2⟩ := numP_r hb hx
      have e : wB { fd0 1 with n := (x : Int) } [] = numB x := by simp [wB, fd0]
      refine ⟨okP_mk hk (by simp [sameP, onlyF, ownB, fd0, bts, noB]) (by simp [fd0]) (by simp [fd0]) (by simp [fd0]) (by simp [fd0]), no, rfl, ?_, ?_⟩
      · rw [e]; exact e1
      · rw [e]; exact e2
  · unfold fieldP at h
    rw [if_neg (by omega), if_pos rfl] at h
    split at h
    · cases h
    · rename_i x q' hx
      cases h
      obtain ⟨e1, e2⟩ := intP_r hb hx
      have e : wB { fd0 2 with i := x } [] = numB (zz x) := by simp [wB, fd0]
      refine ⟨okP_mk hk (by simp [sameP, onlyF, ownB, fd0, bts, noB]) (by simp [fd0]) (by simp [fd0]) (by simp [fd0]) (by simp [fd0]), no, rfl, ?_, ?_⟩
      · rw [e]; exact e1
      · rw [e]; exact e2
  · unfold fieldP at h
    rw [if_neg (by omega), if_neg (by omega), if_pos rfl] at h
    split at h
    · cases h
    · rename_i y q' hy
      cases h
      obtain ⟨hc, rfl, z, hz, hyz⟩ := byteP_ok hy
      obtain ⟨w, rfl, hw⟩ := hb.at hz
      have hyw : y = w := by rw [hyz]; rfl
      subst hyw
      have hc := of_decide_eq_true hc
      have e : wB { fd0 3 with t := decide (y = 1) } [] = [(y : Int)] := by
        have : y = 0 ∨ y = 1 := by omega
        rcases this with rfl | rfl <;> simp [wB, fd0]
      refine ⟨okP_mk hk (by simp [sameP, onlyF, ownB, fd0, bts, noB]) (by simp [fd0]) (by simp [fd0]) (by simp [fd0]) (by simp [fd0]), no, rfl, ?_, ?_⟩
      · rw [e]; exact ⟨hz, trivial⟩
      · rw [e]; rfl
  · unfold fieldP at h
    rw [if_neg (by omega), if_neg (by omega), if_neg (by omega), if_pos rfl] at h
    split at h
    · cases h
    · rename_i n q' hn
      split at h
      · cases h
      · rename_i l q'' hl
        cases h
        obtain ⟨e1, e2⟩ := numP_r hb hn
        obtain ⟨l', g1, g2, g3, g4, g5⟩ := bytesBk hb n hl
        rw [List.nil_append] at g1
        subst g1
        have e : wB (fd0 4) l = numB l.length ++ l := by simp [wB, fd0]
        refine ⟨okP_mk hk (by simp [sameP, onlyF, ownB, fd0]) (fun _ => by rw [g2]; exact numP_le hn) (by simp [fd0]) (by simp [fd0]) (by simp [fd0]), g3, rfl, ?_, ?_⟩
        · rw [e, g2]
          exact has_append.2 ⟨e1, by rw [← e2]; exact g4⟩
        · rw [e, g2, List.length_append, g2]; omega
  · unfold fieldP at h
    rw [if_neg (by omega), if_neg (by omega), if_neg (by omega), if_neg (by omega), if_pos rfl] at h
    split at h
    · cases h
    · rename_i v q' hv
      cases h
      obtain ⟨e1, e2, e3, e4⟩ := vecP_r hb hv
      have e : wB { fd0 5 with vl := (v.1 : Int), vb := (v.2 : Int) } [] = vecB v.1 v.2 := by simp [wB, fd0]
      refine ⟨okP_mk hk (by simp [sameP, onlyF, ownB, fd0, bts, noB]) (by simp [fd0]) (fun _ => ⟨v.1, v.2, rfl, rfl, e1, e2⟩) (by simp [fd0]) (by simp [fd0]), no, rfl, ?_, ?_⟩
      · rw [e]; exact e3
      · rw [e]; exact e4
  · unfold fieldP at h
    rw [if_neg (by omega), if_neg (by omega), if_neg (by omega), if_neg (by omega), if_neg (by omega), if_pos rfl] at h
    split at h
    · cases h
    · rename_i v q' hv
      cases h
      obtain ⟨e1, e2, e3, e4⟩ := keyP_r hb hv
      have e : wB { fd0 6 with kr := (v.1 : Int), kn := (v.2 : Int) } [] = keyB v.1 v.2 := by simp [wB, fd0]
      refine ⟨okP_mk hk (by simp [sameP, onlyF, ownB, fd0, bts, noB]) (by simp [fd0]) (by simp [fd0]) (fun _ => e1) (by simp [fd0]), no, rfl, ?_, ?_⟩
      · rw [e]; exact e3
      · rw [e]; exact e4
  · unfold fieldP at h
    rw [if_neg (by omega), if_neg (by omega), if_neg (by omega), if_neg (by omega), if_neg (by omega), if_neg (by omega), if_pos rfl] at h
    split at h
    · cases h
    · rename_i i q1 hi
      split at h
      · cases h
      · rename_i u q2 hu
        split at h
        · cases h
        · rename_i v q3 hv
          cases h
          obtain ⟨i1, i2⟩ := intP_r hb hi
          obtain ⟨e1, e2, e3, e4⟩ := keyP_r hb hu
          obtain ⟨g1, g2, g3, g4⟩ := vecP_r hb hv
          have e : wB { fd0 7 with id := i, rr := (u.1 : Int), rn := (u.2 : Int), rl := (v.1 : Int), rb := (v.2 : Int) } [] = (numB (zz i) ++ keyB u.1 u.2) ++ vecB v.1 v.2 := by simp [wB, fd0]
          refine ⟨okP_mk hk (by simp [sameP, onlyF, ownB, fd0, bts, noB]) (by simp [fd0]) (by simp [fd0]) (by simp [fd0]) (fun _ => ⟨e1, v.1, v.2, rfl, rfl, g1, g2⟩), no, rfl, ?_, ?_⟩
          · rw [e]
            refine has_append.2 ⟨has_append.2 ⟨i1, by rw [← i2]; exact e3⟩, ?_⟩
            rw [List.length_append, ← Nat.add_assoc, ← i2, ← e4]
            exact g3
          · rw [e, g4, e4, i2, List.length_append, List.length_append]; omega

/-! ### Rows of fields -/

theorem firstL_w {bs : List Int} : ∀ (fs : List FB) {p : Nat} {gs : List FB}, (∀ f ∈ fs, FdA f.1 ∧ okP f ∧ okY f.2) → Has bs p (wBs fs) → firstL bs (fs.map fun f => f.1.k) p gs = .ok (gs ++ fs.map clr) (p + (wBs fs).length)
  | [], p, gs, hf, h => by simp [firstL, wBs]
  | f :: fs, p, gs, hf, h => by
    obtain ⟨a1, a2, a3⟩ := hf f (by simp)
    obtain ⟨h1, h2⟩ := has_append.1 (show Has bs p (wB f.1 f.2 ++ wBs fs) from h)
    rw [List.map_cons]
    unfold firstL
    rw [fieldP_w a1 a2 a3 h1]
    simp only []
    rw [firstL_w fs (fun x hx => hf x (by simp [hx])) h2]
    simp [wBs, Nat.add_assoc]
theorem firstL_r {bs : List Int} (hb : okY bs) : ∀ (ks : List Int) {p q : Nat} {gs hs : List FB}, (∀ k ∈ ks, isKd k) → firstL bs ks p gs = .ok hs q → ∃ fs, hs = gs ++ fs ∧ (∀ f ∈ fs, okP f) ∧ Has bs p (wBs fs) ∧ q = p + (wBs fs).length
  | [], p, q, gs, hs, hk, h => by
    unfold firstL at h
    cases h
    exact ⟨[], by simp, fun f hf => absurd hf List.not_mem_nil, trivial, rfl⟩
  | k :: ks, p, q, gs, hs, hk, h => by
    unfold firstL at h
    split at h
    · cases h
    · rename_i a q' ha
      obtain ⟨e1, e2, e3, e4, e5⟩ := fieldP_r hb (hk k (by simp)) ha
      obtain ⟨fs, g1, g2, g3, g4⟩ := firstL_r hb ks (fun x hx => hk x (by simp [hx])) h
      refine ⟨a :: fs, by rw [g1]; simp, fun f hf => ?_, has_append.2 ⟨e4, by rw [← e5]; exact g3⟩, ?_⟩
      · rcases List.mem_cons.1 hf with rfl | hf
        · exact e1
        · exact g2 f hf
      · rw [g4, e5, wBs, List.length_append]; omega
/-- What Pack has written, Unpack reads. -/
theorem unpackP_w {fs : List FB} (hf : ∀ f ∈ fs, FdA f.1 ∧ okP f ∧ okY f.2) : unpackP (wBs fs) (fs.map fun f => f.1.k) = (fs.map clr, 0, 0) := by
  have hk : ∀ k ∈ fs.map (fun f => f.1.k), isKd k := by
    intro k hk
    obtain ⟨f, h1, rfl⟩ := List.mem_map.1 hk
    exact (hf f h1).2.1.1
  have hh : Has (wBs fs) 0 (wBs fs) := by simpa using has_mid [] (wBs fs) []
  have e := firstL_w fs (p := 0) (gs := []) hf hh
  rw [Nat.zero_add, List.nil_append] at e
  have e2 : firstP (wBs fs) (fs.map fun f => f.1.k) = (fs.map clr, (wBs fs).length, 0) := by
    unfold firstP
    rw [if_pos hk, e]
  unfold unpackP
  rw [e2]
  simp
theorem byteP_ne {bs : List Int} {c : Nat → Bool} {p : Nat} {e : Int} {q : Nat} (h : byteP bs c p = .bad e q) : e ≠ 0 := by
  unfold byteP at h
  split at h
  · cases h; decide
  · split at h
    · cases h
    · cases h; decide
theorem numL_ne {bs : List Int} {most : Nat} : ∀ {d i x p : Nat} {e : Int} {q : Nat}, i + d = 9 → numL bs most (d + 1) i x p = .bad e q → e ≠ 0
  | d, i, x, p, e, q, hi, h => by
    unfold numL at h
    split at h
    · rename_i hb; cases h; exact byteP_ne hb
    · rename_i y q' hy
      split at h
      · cases h
      · rename_i h128
        cases d with
        | zero =>
          have := (of_decide_eq_true (byteP_ok hy).1).2.1
          exact absurd ⟨by omega, by omega⟩ this
        | succ d => exact numL_ne (by omega) h
theorem numP_ne {bs : List Int} {most p : Nat} {e : Int} {q : Nat} (h : numP bs most p = .bad e q) : e ≠ 0 := numL_ne (by omega) h
theorem intP_ne {bs : List Int} {p : Nat} {e : Int} {q : Nat} (h : intP bs p = .bad e q) : e ≠ 0 := by
  unfold intP at h
  split at h
  · rename_i hb; cases h; exact numP_ne hb
  · cases h
theorem vecL_ne {bs : List Int} : ∀ {d m v p : Nat} {e : Int} {q : Nat}, vecL bs d m v p = .bad e q → e ≠ 0
  | 0, m, v, p, e, q, h => by unfold vecL at h; cases h
  | d + 1, m, v, p, e, q, h => by
    unfold vecL at h
    split at h
    · cases h
    · split at h
      · rename_i hb; cases h; exact byteP_ne hb
      · exact vecL_ne h
theorem vecP_ne {bs : List Int} {p : Nat} {e : Int} {q : Nat} (h : vecP bs p = .bad e q) : e ≠ 0 := by
  unfold vecP at h
  split at h
  · rename_i hb; cases h; exact byteP_ne hb
  · split at h
    · rename_i hb; cases h; exact vecL_ne hb
    · cases h
theorem keyL_ne {bs : List Int} : ∀ {d x p : Nat} {e : Int} {q : Nat}, keyL bs d x p = .bad e q → e ≠ 0
  | 0, x, p, e, q, h => by unfold keyL at h; cases h
  | d + 1, x, p, e, q, h => by
    unfold keyL at h
    split at h
    · rename_i hb; cases h; exact byteP_ne hb
    · exact keyL_ne h
theorem keyP_ne {bs : List Int} {p : Nat} {e : Int} {q : Nat} (h : keyP bs p = .bad e q) : e ≠ 0 := by
  unfold keyP at h
  split at h
  · rename_i hb; cases h; exact byteP_ne hb
  · split at h
    · split at h
      · rename_i hb; cases h; exact keyL_ne hb
      · cases h
    · cases h
theorem bytesL_ne {bs : List Int} : ∀ {n : Nat} {l : List Int} {p : Nat} {e : Int} {q : Nat}, bytesL bs n l p = .bad e q → e ≠ 0
  | 0, l, p, e, q, h => by unfold bytesL at h; cases h
  | n + 1, l, p, e, q, h => by
    unfold bytesL at h
    split at h
    · rename_i hb; cases h; exact byteP_ne hb
    · exact bytesL_ne h
theorem fieldP_ne {bs : List Int} {k : Int} {p : Nat} {e : Int} {q : Nat} (h : fieldP bs k p = .bad e q) : e ≠ 0 := by
  unfold fieldP at h
  repeat' (split at h)
  all_goals first | (cases h; done) | (cases h; first | exact numP_ne (by assumption) | exact intP_ne (by assumption) | exact byteP_ne (by assumption) | exact bytesL_ne (by assumption) | exact vecP_ne (by assumption) | exact keyP_ne (by assumption))
theorem firstL_ne {bs : List Int} : ∀ {ks : List Int} {p : Nat} {gs : List FB} {e : Int} {q : Nat}, firstL bs ks p gs = .bad e q → e ≠ 0
  | [], p, gs, e, q, h => by unfold firstL at h; cases h
  | k :: ks, p, gs, e, q, h => by
    unfold firstL at h
    split at h
    · rename_i hb; cases h; exact fieldP_ne hb
    · exact firstL_ne h
/-- What First reads has just these bytes. -/
theorem firstP_r {bs ks : List Int} (hb : okY bs) (h : (firstP bs ks).2.2 = 0) : (∀ f ∈ (firstP bs ks).1, okP f) ∧ (firstP bs ks).2.1 ≤ bs.length ∧ wBs (firstP bs ks).1 = bs.take (firstP bs ks).2.1 := by
  have hn0 : ∀ {e : Int} {p : Nat}, firstL bs ks 0 [] = .bad e p → e ≠ 0 := fun h => firstL_ne h
  unfold firstP at h ⊢
  by_cases hk : ∀ k ∈ ks, isKd k
  · rw [if_pos hk] at h ⊢
    cases hl : firstL bs ks 0 [] with
    | ok gs p =>
      obtain ⟨fs, e1, e2, e3, e4⟩ := firstL_r hb ks hk hl
      rw [List.nil_append] at e1
      subst e1
      rw [Nat.zero_add] at e4
      subst e4
      refine ⟨e2, by simpa using e3.le (Nat.zero_le _), ?_⟩
      have := e3.take
      rw [List.drop_zero] at this
      exact this.symm
    | bad e p =>
      rw [hl] at h
      exact absurd h (hn0 hl)
  · rw [if_neg hk] at h
    exact absurd h (by decide)
theorem okP_clr (p : FB) : okP (clr p) ↔ okP p := by
  obtain ⟨⟨k, n, i, t, b, vl, vb, kr, kn, id, rr, rn, rl, rb⟩, l⟩ := p
  unfold okP okF sameP onlyF ownB clr
  simp only
  repeat' split
  all_goals exact Iff.rfl
theorem wB_clr (p : FB) : wB (clr p).1 (clr p).2 = wB p.1 p.2 := rfl
theorem wBs_clr : ∀ fs : List FB, wBs (fs.map clr) = wBs fs
  | [] => rfl
  | p :: fs => by rw [List.map_cons, wBs, wBs_clr fs]; rfl
end Go.Proofs.Ytmbfnpadhlfepaa
