/-
  Bytes cut at any place; kinds of fields; what is written is bytes.
-/
import Derived.Test.YtmbfnpadhlfepaaPaqC
set_option linter.unusedSimpArgs false
set_option linter.unusedVariables false
set_option maxRecDepth 100000
set_option maxHeartbeats 4000000
namespace Go.Proofs.Ytmbfnpadhlfepaa
open Go.Sim Go.Sim.Bt
attribute [local congr] bdc cndc itec gdc gdSc gdUc

def Cap (v : Value) : Prop := v = .slice none 0 0 ∨ ∃ b m cap, v = .slice (some ⟨b, 0, some 0⟩) m (2 * cap) ∧ m ≤ cap
theorem slc_take {s : St} {v : Value} {bs : List Int} (h : Byt s v (br bs)) (hc : Cap v) {n : Nat} (hn : n ≤ bs.length) : ∃ w, slc s 1 v none (some (.int .i64 (n : Int))) none = some w ∧ Byt s w (br (bs.take n)) ∧ Cap w := by
  rcases hc with rfl | ⟨b, m, cap, rfl, hm⟩
  · have hl := h.len
    simp only [lenV, Option.some.injEq, br_length] at hl
    have hb : bs = [] := List.eq_nil_of_length_eq_zero hl.symm
    subst hb
    have : n = 0 := by simpa using hn
    subst this
    exact ⟨.slice none 0 0, rfl, by simpa using h, .inl rfl⟩
  · have hl := h.len
    simp only [lenV, Option.some.injEq, br_length] at hl
    subst hl
    have hr := h.rows
    rw [br_length] at hr
    unfold rowsOf at hr
    simp only at hr
    split at hr
    · rename_i sz' rows ro hg
      split at hr
      · rename_i hcnd
        obtain ⟨rfl, _, h3⟩ := hcnd
        simp only [Option.some.injEq, List.drop_zero, Nat.zero_add] at hr h3
        have e1 : optN (some (Value.int .i64 (n : Int))) bs.length = some n := by simp [optN, isNat]
        have e2 : optN none 0 = some 0 := rfl
        refine ⟨.slice (some ⟨b, 0, some 0⟩) n (2 * cap), ?_, ⟨⟨_, _, _, rfl⟩, by rw [br_length, List.length_take, Nat.min_eq_left hn]; rfl, ?_, ⟨_, bytesOf_br _⟩⟩, .inr ⟨b, n, cap, rfl, by omega⟩⟩
        · unfold slc
          rw [e2, bds]
          show ((optN (some (Value.int .i64 (n : Int))) bs.length).bind _) = _
          rw [e1, bds, hg]
          show (if 1 = 1 ∧ 0 ≤ n then (if 2 * cap = 1 then _ else if n ≤ 2 * cap / 2 then some (Value.slice (some ⟨b, 0 + 0, some 0⟩) (n - 0) (2 * (2 * cap / 2 - 0))) else none) else none) = _
          rw [if_pos ⟨rfl, Nat.zero_le _⟩, if_neg (by omega), if_pos (by omega), show 2 * (2 * cap / 2 - 0) = 2 * cap by omega]
          rfl
        · rw [br_length, List.length_take, Nat.min_eq_left hn, rowsOf_row hg (Nat.le_refl _) (by omega), List.drop_zero]
          have : br (bs.take n) = (br bs).take n := by simp [br, List.map_take]
          rw [this, ← hr, List.take_take, Nat.min_eq_left hn]
      · cases hr
    · cases hr
theorem val_cap {s : St} {v : Value} (h : ValIs s v) : Cap v := by
  unfold ValIs Leaf.Is at h
  rcases h with rfl | ⟨b, n, cap, all, rfl, g1, g2, g3, g4, g5⟩
  · exact .inl rfl
  · exact .inr ⟨b, n, cap, rfl, g1⟩
/-- The bytes looked at. -/
theorem bytes_pre {s : St} {v : Value} (h : ValIs s v) (hF : Fresh s) : ∃ bv bs, Byt s bv (br bs) ∧ okY bs ∧ bs.length ≤ 700 ∧ Cap bv ∧ ∀ (ys : List Value) s', More s s' →
    ((lenL v).bind fun x4 => (bin .gtr x4 (.int .i64 700)).bind fun x5 => cnd x5 ((slc s' 1 v none (some (.int .i64 700)) none).bind fun x6 => (some (0, x6 :: ys, s') : Option Cut)) (some (0, v :: ys, s'))) = some (0, bv :: ys, s') := by
  obtain ⟨bs, h1, h2⟩ := val_br h
  have hl := h1.lenL
  rw [br_length] at hl
  by_cases c : 700 < bs.length
  · obtain ⟨w, g1, g2, g3⟩ := slc_take h1 (val_cap h) (n := 700) (by omega)
    refine ⟨w, bs.take 700, g2, fun y hy => h2 y (List.mem_of_mem_take hy), by simp; omega, g3, fun ys s' m => ?_⟩
    have k : bin .gtr (.int .i64 (bs.length : Int)) (.int .i64 700) = some (.bool true) := by rw [bin_gtr, decide_eq_true (by omega)]
    have g1' : slc s' 1 v none (some (.int .i64 700)) none = some w := by rw [slc_more h hF m]; exact g1
    rw [hl, bds, k, bds, cndt, g1', bds]
  · refine ⟨v, bs, h1, h2, by omega, val_cap h, fun ys s' m => ?_⟩
    have k : bin .gtr (.int .i64 (bs.length : Int)) (.int .i64 700) = some (.bool false) := by rw [bin_gtr, decide_eq_false (by omega)]
    rw [hl, bds, k, bds, cndf]
theorem FL.kd {n : Nat} {s : St} {v : Value} {fs : List FB} (h : FL n s v fs) {j : Nat} {p : FB} (hj : fs[j]? = some p) : ∃ q, idx s 14 v (.int .i64 (j : Int)) = some q ∧ fld 0 q = some q ∧ ldc s q = some (.int .i64 p.1.k) := by
  obtain ⟨b, all, ro, h1, h2, h3⟩ := h.rows.here.at (j := j) (r := p.1.cs) (by rw [List.getElem?_map, hj]; rfl)
  exact ⟨_, h1, rfl, by rw [ldc_row h2, h3]; rfl⟩

/-! ### What is written is bytes -/

theorem okY_nil : okY [] := fun y hy => absurd hy List.not_mem_nil
theorem okY_cons {y : Int} {l : List Int} (h : 0 ≤ y ∧ y < 256) (k : okY l) : okY (y :: l) := fun z hz => by
  rcases List.mem_cons.1 hz with rfl | hz
  · exact h
  · exact k z hz
theorem okY_app {l m : List Int} (h : okY l) (k : okY m) : okY (l ++ m) := fun z hz => by
  rcases List.mem_append.1 hz with hz | hz
  · exact h z hz
  · exact k z hz
theorem okY_numB : ∀ (n x : Nat), x ≤ n → okY (numB x)
  | n, x, h => by
    rw [numB]
    split
    · exact okY_cons (by omega) okY_nil
    · cases n with
      | zero => omega
      | succ n => exact okY_cons (by omega) (okY_numB n (x / 128) (by omega))
theorem okY_kb (n : Nat) : ∀ m, okY (kb n m)
  | 0 => okY_nil
  | m + 1 => okY_cons (by omega) (okY_kb n m)
theorem okY_keyB (r : Int) (n : Nat) : okY (keyB r n) := by
  unfold keyB
  refine okY_cons (by rw [wrapu8_eq]; omega) ?_
  split
  · exact okY_kb n 8
  · exact okY_nil
theorem okY_vecB {L B : Int} (h : okV L B) : okY (vecB L.toNat B.toNat) := by
  obtain ⟨n, b, rfl, rfl, h1, h2⟩ := h
  exact okY_cons (by simp only [Int.toNat_natCast]; omega) (okY_kb _ _)
theorem okY_wB {f : Fd} {l : List Int} (ok : okP (f, l)) (hl : okY l) : okY (wB f l) := by
  unfold wB
  split
  · exact okY_numB _ _ (Nat.le_refl _)
  · split
    · exact okY_numB _ _ (Nat.le_refl _)
    · split
      · refine okY_cons ?_ okY_nil
        split <;> omega
      · split
        · exact okY_app (okY_numB _ _ (Nat.le_refl _)) hl
        · split
          · rename_i h5; exact okY_vecB (ok.2.2.2.1 h5)
          · split
            · exact okY_keyB _ _
            · rename_i h1 h2 h3 h4 h5 h6
              have h7 : f.k = 7 := by have := ok.1.1; have := ok.1.2; simp only at *; omega
              exact okY_app (okY_app (okY_numB _ _ (Nat.le_refl _)) (okY_keyB _ _)) (okY_vecB (ok.2.2.2.2.2 h7).2)
theorem okY_wBs : ∀ {fs : List FB}, (∀ f ∈ fs, FdA f.1 ∧ okP f ∧ okY f.2) → okY (wBs fs) ∧ (wBs fs).length ≤ 65600 * fs.length
  | [], h => ⟨okY_nil, by simp [wBs]⟩
  | f :: fs, h => by
    obtain ⟨h1, h2⟩ := okY_wBs (fs := fs) fun x hx => h x (by simp [hx])
    obtain ⟨a1, a2, a3⟩ := h f (by simp)
    have := wB_len a1 a2
    refine ⟨okY_app (okY_wB a2 a3) h1, ?_⟩
    rw [wBs, List.length_append, List.length_cons]
    have e : 65600 * (fs.length + 1) = 65600 * fs.length + 65600 := by rw [Nat.mul_succ]
    omega
theorem firstP_e {bs ks : List Int} (h : (firstP bs ks).2.2 ≠ 0) : (firstP bs ks).1 = [] := by
  unfold firstP at h ⊢
  split
  · rename_i hk
    rw [if_pos hk] at h
    cases hl : firstL bs ks 0 [] with
    | ok gs p => rw [hl] at h; exact absurd rfl h
    | bad e p => rfl
  · rfl
theorem kr_snoc (l : List Int) (k : Int) : kr (l ++ [k]) = kr l ++ [[.int .i64 k]] := by simp [kr]
end Go.Proofs.Ytmbfnpadhlfepaa
