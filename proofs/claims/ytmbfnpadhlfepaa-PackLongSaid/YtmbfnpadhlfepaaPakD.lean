/-
  What a writer writes of a key.
-/
import Derived.Test.YtmbfnpadhlfepaaPakC
set_option linter.unusedSimpArgs false
set_option linter.unusedVariables false
set_option maxRecDepth 100000
set_option maxHeartbeats 4000000
namespace Go.Proofs.Ytmbfnpadhlfepaa
open Go.Sim Go.Sim.Bt
attribute [local congr] bdc cndc itec gdc gdSc gdUc

/-- The lowest `m` bytes of a number, the highest first. -/
def kb (n : Nat) : Nat → List Int
  | 0 => []
  | m + 1 => ((n / 2 ^ (8 * m) % 256 : Nat) : Int) :: kb n m
theorem kb_length (n : Nat) : ∀ m, (kb n m).length = m
  | 0 => rfl
  | m + 1 => by simp [kb, kb_length n m]
theorem cvi_u8 (k : IntKind) (x : Nat) : cvi .u8 (.int k (x : Int)) = some (u8 ((x % 256 : Nat) : Int)) := by
  rw [cvi_int]
  simp [u8, IntKind.wrap, IntKind.signed, IntKind.bits]

theorem keyloop {b n0 : Nat} (r : Int) (n : Nat) : ∀ (m : Nat), m ≤ 8 → ∀ {s : St} {l : List Int}, WrAt b n0 s l → l.length + m ≤ 140737488355328 →
    ∃ s', (∀ k, iter (pack_writer_key.l4 std) (k + m + 1) [wpt b, .int .i64 ((m : Int) - 1), .agg ⟨[.int .i64 r, .int .u64 (n : Int)]⟩] s = some (0, [], s')) ∧ WrAt b n0 s' (l ++ kb n m) ∧ WSt b n0 s s'
  | 0, _, s, l, h, _ => ⟨s, fun k => by
      rw [iter_succ]
      simp only [pack_writer_key.l4, sy, reduceIte, Nat.reduceAdd, Nat.reduceLeDiff, Nat.reduceLT, Nat.reduceEqDiff, Int.reduceEq, Int.reduceLT, Int.reduceLE, Int.reduceNe, ly]
      rfl, by simpa [kb] using h, .refl _ _ _⟩
  | m + 1, hm, s, l, h, hl => by
    obtain ⟨v, hv, hstep⟩ := wr_step h (by omega)
    obtain ⟨v', s1, s2, p1, p2, p3, p4⟩ := hstep ((n / 2 ^ (8 * m) % 256 : Nat) : Int)
    obtain ⟨s', q1, q2, q3⟩ := keyloop r n m (by omega) p3 (by simp; omega)
    refine ⟨s', fun k => ?_, by rw [kb, List.append_cons]; exact q2, p4.trans q3⟩
    rw [show ((m + 1 : Nat) : Int) - 1 = (m : Int) by omega, show k + (m + 1) + 1 = (k + m + 1) + 1 by omega, iter_succ]
    have c : m = 0 ∨ m = 1 ∨ m = 2 ∨ m = 3 ∨ m = 4 ∨ m = 5 ∨ m = 6 ∨ m = 7 := by omega
    have e1 : bin .mul (.int .i64 8) (.int .i64 (m : Int)) = some (.int .i64 ((8 * m : Nat) : Int)) := by rcases c with rfl | rfl | rfl | rfl | rfl | rfl | rfl | rfl <;> rfl
    have e2 : cvi .u64 (.int .i64 ((8 * m : Nat) : Int)) = some (.int .u64 ((8 * m : Nat) : Int)) := by rcases c with rfl | rfl | rfl | rfl | rfl | rfl | rfl | rfl <;> rfl
    have e3 := shr_u64 (a := n) (k := 8 * m) (k' := .u64) (by omega)
    have e4 := cvi_u8 .u64 (n / 2 ^ (8 * m))
    have e5 : bin .geq (.int .i64 (m : Int)) (.int .i64 0) = some (.bool true) := by rcases c with rfl | rfl | rfl | rfl | rfl | rfl | rfl | rfl <;> rfl
    have e6 : bin .sub (.int .i64 (m : Int)) (.int .i64 1) = some (.int .i64 ((m : Int) - 1)) := by rcases c with rfl | rfl | rfl | rfl | rfl | rfl | rfl | rfl <;> rfl
    have e7 : nck (wpt b) = some (wpt b) := rfl
    have e8 : fld 0 (wpt b) = some (wpt b) := rfl
    have e9 : ∀ y : Int, ((bls 1 (List.replicate 1 [(.int .u8 0)]) [(0, u8 y)]).bind fun rows => als s 1 1 rows) = some (.slice (some ⟨s.n, 0, some 0⟩) 1 2, s.new (.row 1 [[u8 y]] false)) := fun y => rfl
    unfold pack_writer_key.l4
    simp only [std_bd, std_cnd, List.getD_cons_zero, List.getD_cons_succ, cellsA, lcl, List.getElem?_cons_succ, List.getElem?_cons_zero, e1, e2, e3, e4, e5, e6, e7, e8, e9, hv, p1, p2, Option.bind_some, cnd]
    exact q1 k

def keyB (r : Int) (n : Nat) : List Int := IntKind.u8.wrap r :: if r = 2 then kb n 8 else []
theorem key_w {b n0 : Nat} {s : St} {l : List Int} (r : Int) (n : Nat) (h : WrAt b n0 s l) (hl : l.length + 9 ≤ 140737488355328) :
    ∃ s', pack_writer_key.v (wpt b) (.agg ⟨[.int .i64 r, .int .u64 (n : Int)]⟩) s = some (.tuple ⟨[]⟩, s') ∧ WrAt b n0 s' (l ++ keyB r n) ∧ WSt b n0 s s' := by
  obtain ⟨v, hv, hstep⟩ := wr_step h (by omega)
  obtain ⟨v', s1, s2, p1, p2, p3, p4⟩ := hstep (IntKind.u8.wrap r)
  have e4 : cvi .u8 (.int .i64 r) = some (u8 (IntKind.u8.wrap r)) := rfl
  have e7 : nck (wpt b) = some (wpt b) := rfl
  have e8 : fld 0 (wpt b) = some (wpt b) := rfl
  have e9 : ∀ y : Int, ((bls 1 (List.replicate 1 [(.int .u8 0)]) [(0, u8 y)]).bind fun rows => als s 1 1 rows) = some (.slice (some ⟨s.n, 0, some 0⟩) 1 2, s.new (.row 1 [[u8 y]] false)) := fun y => rfl
  have e1 : bx (.agg ⟨[.int .i64 r, .int .u64 (n : Int)]⟩) = some [.int .i64 r, .int .u64 (n : Int)] := rfl
  have e2 : lcl [.int .i64 r, .int .u64 (n : Int)] 0 = some (.int .i64 r) := rfl
  unfold keyB
  by_cases h2 : r = 2
  · obtain ⟨s', q1, q2, q3⟩ := keyloop r n 8 (by omega) p3 (by simp; omega)
    refine ⟨s', ?_, by rw [if_pos h2]; simpa using q2, p4.trans q3⟩
    have q := q1 (BIG - 9)
    rw [show BIG - 9 + 8 + 1 = BIG from rfl] at q
    have ee : eqb [1] false false (.int .i64 r) (.int .i64 2) = some (.bool true) := by rw [eqb1, decide_eq_true h2]
    unfold pack_writer_key.v pack_writer_key.t
    simp only [std_bd, std_cnd, std_it, e1, e2, e4, e7, e8, e9, hv, p1, p2, ee, Option.bind_some, cnd]
    rw [show iter (pack_writer_key.l4 std) BIG [wpt b, .int .i64 7, .agg ⟨[.int .i64 r, .int .u64 (n : Int)]⟩] s2 = _ from q]
    rfl
  · refine ⟨s2, ?_, by rw [if_neg h2]; simpa using p3, p4⟩
    have ee : eqb [1] false false (.int .i64 r) (.int .i64 2) = some (.bool false) := by rw [eqb1, decide_eq_false h2]
    unfold pack_writer_key.v pack_writer_key.t
    simp only [std_bd, std_cnd, std_it, e1, e2, e4, e7, e8, e9, hv, p1, p2, ee, Option.bind_some, cnd]
end Go.Proofs.Ytmbfnpadhlfepaa
