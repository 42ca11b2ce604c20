/-
  One key packed.
-/
import Derived.Test.YtmbfnpadhlfepaaPakD
set_option linter.unusedSimpArgs false
set_option linter.unusedVariables false
set_option maxRecDepth 100000
set_option maxHeartbeats 4000000
namespace Go.Proofs.Ytmbfnpadhlfepaa
open Go.Sim Go.Sim.Bt
attribute [local congr] bdc cndc itec gdc gdSc gdUc

def bts (l : List Int) : List UInt8 := l.map fun y => UInt8.ofNat y.toNat
theorem bytesOf_br : ∀ l : List Int, bytesOf (br l) = some (bts l)
  | [] => rfl
  | y :: l => by
    have := bytesOf_br l
    simp only [br, List.map_cons, u8, bytesOf] at this ⊢
    rw [this]
    rfl
theorem ful_b2s {n0 : Nat} {s : St} {v : Value} {l : List Int} (h : Ful n0 s 1 v (br l)) : b2s s v = some (.string ⟨⟨bts l⟩⟩) := by
  rcases h with ⟨rfl, e⟩ | ⟨b, e, _, rfl, hg, _⟩
  · have : l = [] := by cases l with
      | nil => rfl
      | cons a l => simp [br] at e
    subst this
    rfl
  · simp only [b2s, lenV, rowsOf, hg, Option.bind_some, bytesOf_br, Option.map_some]
    simp [bytesOf_br]
def keyF (r : Int) (n : Nat) : Fd := ⟨6, 0, 0, false, nilB, 0, 0, r, n, 0, 0, 0, 0, 0⟩
theorem okF_key (r : Int) (n : Nat) : okF (keyF r n) noB 0 ↔ okK r n := by
  unfold okF
  constructor
  · intro h; exact h.2.2.2.2.1 rfl
  · intro h
    refine ⟨by unfold isKd keyF; simp, ?_, fun e => by simp [keyF] at e, fun e => by simp [keyF] at e, fun _ => h, fun e => by simp [keyF] at e⟩
    simp [sameP, onlyF, keyF, ownB]
theorem keyF_check (r : Int) (n : Nat) (s : St) : pack_Check.r (keyF r n).v s = some (.int .i64 (if okK r n then 0 else 30)) := by
  have := check_r (keyF r n) (x := noB) (n := 0) s rfl rfl rfl (Int.le_refl _) (Int.le_refl _)
  rw [this]
  by_cases h : okK r n
  · rw [if_pos ((okF_key r n).2 h), if_pos h]
  · rw [if_neg (fun e => h ((okF_key r n).1 e)), if_neg h]

/-- A field written: one that is a key. -/
theorem field_key {b n0 : Nat} {s : St} {l : List Int} (r : Int) (n : Nat) (h : WrAt b n0 s l) (hl : l.length + 9 ≤ 140737488355328) :
    ∃ s', pack_writer_field.v (wpt b) (keyF r n).v s = some (.tuple ⟨[]⟩, s') ∧ WrAt b n0 s' (l ++ keyB r n) ∧ WSt b n0 s s' := by
  obtain ⟨s', h1, h2, h3⟩ := key_w r n h hl
  refine ⟨s', ?_, h2, h3⟩
  simp only [pack_writer_field.v, pack_writer_field.t, Fd.v, Fd.cs, keyF, nilB, sy, reduceIte, Nat.reduceAdd, Nat.reduceLeDiff, Nat.reduceLT, Nat.reduceEqDiff, Int.reduceEq, Int.reduceLT, Int.reduceLE, Int.reduceNe, ly, h1]

/-- One key packed. -/
theorem packKey {c : Nat} {s : St} (r : Int) (n : Nat) (hf : Fresh s) (hg : s.get c = some (.row 14 [(keyF r n).cs] false)) :
    (okK r n → ∃ v s' n0, pack_Pack.v (.slice (some ⟨c, 0, some 0⟩) 1 2) s = some (.tuple ⟨[v, .int .i64 0]⟩, s') ∧ s.n ≤ n0 ∧ Ful n0 s' 1 v (br (keyB r n)) ∧ s.n ≤ s'.n ∧ (∀ x, x < s.n → s'.get x = s.get x) ∧ Fresh s') ∧
    (¬ okK r n → pack_Pack.v (.slice (some ⟨c, 0, some 0⟩) 1 2) s = some (.tuple ⟨[nilB, .int .i64 30]⟩, s)) := by
  have hchk := keyF_check r n s
  have hi : idx s 14 (.slice (some ⟨c, 0, some 0⟩) 1 2) (.int .i64 0) = some (.pointer (some ⟨c, 0, some 0⟩)) := by
    rw [idx_row hg (by omega) (by omega)]; rfl
  have hld : lda s 14 (.pointer (some ⟨c, 0, some 0⟩)) = some (keyF r n).v := by
    rw [lda_row hg]; rfl
  have hlen : lenL (.slice (some ⟨c, 0, some 0⟩) 1 2) = some (.int .i64 1) := rfl
  have lt0 : bin .lss (.int .i64 0) (.int .i64 1) = some (.bool true) := rfl
  have lt1 : bin .lss (.int .i64 1) (.int .i64 1) = some (.bool false) := rfl
  have add0 : bin .add (.int .i64 0) (.int .i64 1) = some (.int .i64 1) := rfl
  have hst : ∀ a0 a1 a2 a3 a4 a5 a6 a7 a8 a9 a10 a11 a12 a13 : Value, stl [a0, a1, a2, a3, a4, a5, a6, a7, a8, a9, a10, a11, a12, a13] 0 14 (keyF r n).v = some (keyF r n).cs := fun _ _ _ _ _ _ _ _ _ _ _ _ _ _ => rfl
  have hal : lal (keyF r n).cs 0 14 = some (keyF r n).v := rfl
  have hz : bx (.agg #[(.int .i64 0), (.int .u64 0), (.int .i64 0), (.bool false), (.slice none 0 0), (.int .i64 0), (.int .u64 0), (.int .i64 0), (.int .u64 0), (.int .i64 0), (.int .i64 0), (.int .u64 0), (.int .i64 0), (.int .u64 0)]) = some [(.int .i64 0), (.int .u64 0), (.int .i64 0), (.bool false), (.slice none 0 0), (.int .i64 0), (.int .u64 0), (.int .i64 0), (.int .u64 0), (.int .i64 0), (.int .i64 0), (.int .u64 0), (.int .i64 0), (.int .u64 0)] := rfl
  constructor
  · intro hk
    rw [if_pos hk] at hchk
    have eq0 : eqb [1] false true (.int .i64 0) (.int .i64 0) = some (.bool false) := rfl
    have l2 : iter (pack_Pack.l2 std) BIG [.slice (some ⟨c, 0, some 0⟩) 1 2, .slice (some ⟨c, 0, some 0⟩) 1 2, .int .i64 1, .int .i64 0] s = some (0, [.slice (some ⟨c, 0, some 0⟩) 1 2], s) := by
      rw [show BIG = (BIG - 2 + 1) + 1 from rfl, iter_succ]
      unfold pack_Pack.l2
      simp only [std_bd, std_cnd, List.getD_cons_zero, List.getD_cons_succ, lt0, hi, hld, hz, hst, hal, hchk, eq0, add0, Option.bind_some, cnd]
      rw [iter_succ]
      simp only [List.getD_cons_zero, List.getD_cons_succ, lt1, Option.bind_some, cnd]
    have hc : c < s.n := hf.lt hg
    generalize hs1 : s.new (.row 1 [[nilB]] false) = s1
    have hbl : bld [.slice none 0 0] [] = some (.agg ⟨[nilB]⟩) := rfl
    have hav : alv s (.agg ⟨[nilB]⟩) = some (wpt s.n, s1) := by rw [← hs1]; rfl
    have hw : WrAt s.n (s.n + 1) s1 [] := by
      subst hs1
      exact ⟨hf.new, Nat.lt_succ_self _, Nat.le_refl _, nilB, get_new_same, .inl ⟨rfl, rfl⟩⟩
    have hg1 : s1.get c = some (.row 14 [(keyF r n).cs] false) := by rw [← hs1, get_new_ne (by omega)]; exact hg
    have hi1 : idx s1 14 (.slice (some ⟨c, 0, some 0⟩) 1 2) (.int .i64 0) = some (.pointer (some ⟨c, 0, some 0⟩)) := by
      rw [idx_row hg1 (by omega) (by omega)]; rfl
    have hld1 : lda s1 14 (.pointer (some ⟨c, 0, some 0⟩)) = some (keyF r n).v := by
      rw [lda_row hg1]; rfl
    obtain ⟨s2, k1, k2, k3⟩ := field_key r n hw (by simp)
    obtain ⟨v, k4, k5⟩ := k2.at_
    have l10 : iter (pack_Pack.l10 std) BIG [wpt s.n, .slice (some ⟨c, 0, some 0⟩) 1 2, .int .i64 1, .int .i64 0] s1 = some (0, [wpt s.n], s2) := by
      rw [show BIG = (BIG - 2 + 1) + 1 from rfl, iter_succ]
      unfold pack_Pack.l10
      simp only [std_bd, std_cnd, List.getD_cons_zero, List.getD_cons_succ, lt0, hi1, hld1, hz, hst, hal, k1, add0, Option.bind_some, cnd]
      rw [iter_succ]
      simp only [List.getD_cons_zero, List.getD_cons_succ, lt1, Option.bind_some, cnd]
    have e7 : nck (wpt s.n) = some (wpt s.n) := rfl
    have e8 : fld 0 (wpt s.n) = some (wpt s.n) := rfl
    have e9 : ldc s2 (wpt s.n) = some v := by rw [wpt, ldc_row k4]; rfl
    refine ⟨v, s2, s.n + 1, ?_, Nat.le_succ _, by simpa using k5, ?_, fun x hx => ?_, k2.fr⟩
    · unfold pack_Pack.v pack_Pack.t
      simp only [std_bd, std_cnd, std_it, hlen, l2, Option.bind_some, if_true, List.getD_cons_zero, hbl, hav, l10, e7, e8, e9]
    · have := k3.n
      rw [← hs1, new_n] at this
      omega
    · rw [k3.keep x (by omega) (by omega), ← hs1, get_new_ne (by omega)]
  · intro hk
    rw [if_neg hk] at hchk
    have eq0 : eqb [1] false true (.int .i64 30) (.int .i64 0) = some (.bool true) := rfl
    have l2 : iter (pack_Pack.l2 std) BIG [.slice (some ⟨c, 0, some 0⟩) 1 2, .slice (some ⟨c, 0, some 0⟩) 1 2, .int .i64 1, .int .i64 0] s = some (1, [nilB, .int .i64 30], s) := by
      rw [show BIG = (BIG - 2 + 1) + 1 from rfl, iter_succ]
      unfold pack_Pack.l2
      simp only [std_bd, std_cnd, List.getD_cons_zero, List.getD_cons_succ, lt0, hi, hld, hz, hst, hal, hchk, eq0, Option.bind_some, cnd]
      rfl
    unfold pack_Pack.v pack_Pack.t
    simp only [std_bd, std_cnd, std_it, hlen, l2, Option.bind_some]
    rfl
end Go.Proofs.Ytmbfnpadhlfepaa
