/-
  What a writer writes of a number; the reference's bytes of it.
-/
import Derived.Test.YtmbfnpadhlfepaaPakF
set_option linter.unusedSimpArgs false
set_option linter.unusedVariables false
set_option maxRecDepth 100000
set_option maxHeartbeats 4000000
namespace Go.Proofs.Ytmbfnpadhlfepaa
open Go.Sim Go.Sim.Bt
attribute [local congr] bdc cndc itec gdc gdSc gdUc

/-- A number, seven bits by seven. -/
def numB (x : Nat) : List Int := if h : x < 128 then [(x : Int)] else ((x % 128 + 128 : Nat) : Int) :: numB (x / 128)
termination_by x
decreasing_by omega
theorem or128 (x : Nat) : (x % 256) ||| 128 = x % 128 + 128 := by
  have : ∀ y : Fin 256, y.val ||| 128 = y.val % 128 + 128 := by decide
  have h := this ⟨x % 256, Nat.mod_lt _ (by decide)⟩
  simp only at h
  rw [h]
  omega
theorem or_u8 (x : Nat) : bin .or (.int .u8 ((x % 256 : Nat) : Int)) (.int .u8 128) = some (u8 ((x % 128 + 128 : Nat) : Int)) := by
  have h : ∀ y : Fin 256, bin .or (.int .u8 (y.val : Int)) (.int .u8 128) = some (u8 ((y.val % 128 + 128 : Nat) : Int)) := by
    intro y
    rw [bin_or]
    have : ∀ y : Fin 256, IntKind.u8.wrap ((BitVec.ofInt IntKind.u8.bits (y.val : Int) ||| BitVec.ofInt IntKind.u8.bits 128).toNat : Int) = ((y.val % 128 + 128 : Nat) : Int) := by decide
    rw [this y]
    rfl
  have h1 := h ⟨x % 256, Nat.mod_lt _ (by decide)⟩
  simp only at h1
  rw [h1, show x % 256 % 128 = x % 128 by omega]
theorem numloop {b n0 : Nat} : ∀ (d x : Nat), x < 2 ^ (7 * (d + 1)) → x < 2 ^ 64 → ∀ {s : St} {l : List Int}, WrAt b n0 s l → l.length + d + 1 ≤ 140737488355328 →
    ∃ s' y fr, (∀ k, iter (pack_writer_number.l0 std) (k + d + 1) [wpt b, .int .u64 (x : Int)] s = some (0, [wpt b, .int .u64 ((y : Nat) : Int)], s')) ∧ y < 128 ∧ numB x = fr ++ [(y : Int)] ∧ fr.length ≤ d ∧ WrAt b n0 s' (l ++ fr) ∧ WSt b n0 s s'
  | d, x, hx, h64, s, l, h, hl => by
    by_cases h1 : x < 128
    · refine ⟨s, x, [], fun k => ?_, h1, by rw [numB, dif_pos h1]; rfl, Nat.zero_le _, by simpa using h, .refl _ _ _⟩
      have e1 : bin .geq (.int .u64 (x : Int)) (.int .u64 128) = some (.bool false) := by
        rw [bin_geq, decide_eq_false (by omega)]
      rw [iter_succ]
      unfold pack_writer_number.l0
      simp only [std_bd, std_cnd, List.getD_cons_zero, List.getD_cons_succ, e1, Option.bind_some, cnd]
    · cases d with
      | zero => simp at hx; omega
      | succ d =>
        obtain ⟨v, hv, hstep⟩ := wr_step h (by omega)
        obtain ⟨v', s1, s2, p1, p2, p3, p4⟩ := hstep ((x % 128 + 128 : Nat) : Int)
        have hx2 : x / 128 < 2 ^ (7 * (d + 1)) := by
          rw [show 7 * (d + 1 + 1) = 7 * (d + 1) + 7 by omega, Nat.pow_add] at hx
          exact Nat.div_lt_of_lt_mul (by rw [Nat.mul_comm]; exact hx)
        obtain ⟨s', y, fr, q1, q2, q3, q4, q5, q6⟩ := numloop d (x / 128) hx2 (by omega) p3 (by simp; omega)
        refine ⟨s', y, ((x % 128 + 128 : Nat) : Int) :: fr, fun k => ?_, q2, by rw [numB, dif_neg h1, q3]; rfl, by simp; omega, by simpa using q5, p4.trans q6⟩
        have e1 : bin .geq (.int .u64 (x : Int)) (.int .u64 128) = some (.bool true) := by
          rw [bin_geq, decide_eq_true (by omega)]
        have e2 := cvi_u8 .u64 x
        have e3 := or_u8 x
        have e4 := shr_u64 (a := x) (k := 7) (k' := .u64) (by omega)
        rw [show (2 : Nat) ^ 7 = 128 from rfl] at e4
        have e7 : nck (wpt b) = some (wpt b) := rfl
        have e8 : fld 0 (wpt b) = some (wpt b) := rfl
        have e9 : ∀ y : Int, ((bls 1 (List.replicate 1 [(.int .u8 0)]) [(0, u8 y)]).bind fun rows => als s 1 1 rows) = some (.slice (some ⟨s.n, 0, some 0⟩) 1 2, s.new (.row 1 [[u8 y]] false)) := fun y => rfl
        rw [show k + (d + 1) + 1 = (k + d + 1) + 1 by omega, iter_succ]
        unfold pack_writer_number.l0
        simp only [u8] at e2 e3 ⊢
        simp only [std_bd, std_cnd, List.getD_cons_zero, List.getD_cons_succ, e1, e2, e3, e7, e8, hv, Option.bind_some, cnd]
        have e9' := e9 ((x % 128 + 128 : Nat) : Int)
        simp only [u8] at e9' p1
        simp only [e9', p1, p2, Option.bind_some]
        rw [show ((7 : Nat) : Int) = 7 from rfl] at e4
        rw [e4]
        exact q1 k
theorem number_w {b n0 : Nat} {s : St} {l : List Int} (x : Nat) (h64 : x < 2 ^ 64) (h : WrAt b n0 s l) (hl : l.length + 20 ≤ 140737488355328) :
    ∃ s', pack_writer_number.v (wpt b) (.int .u64 (x : Int)) s = some (.tuple ⟨[]⟩, s') ∧ WrAt b n0 s' (l ++ numB x) ∧ WSt b n0 s s' := by
  obtain ⟨s1, y, fr, q1, q2, q3, q4, q5, q6⟩ := numloop 9 x (Nat.lt_of_lt_of_le h64 (by decide)) h64 h (by omega)
  obtain ⟨v, hv, hstep⟩ := wr_step q5 (by simp; omega)
  obtain ⟨v', s2, s3, p1, p2, p3, p4⟩ := hstep (y : Int)
  refine ⟨s3, ?_, by rw [q3, ← List.append_assoc]; exact p3, q6.trans p4⟩
  have q := q1 (BIG - 10)
  rw [show BIG - 10 + 9 + 1 = BIG from rfl] at q
  have e2 := cvi_u8 .u64 y
  rw [Nat.mod_eq_of_lt (by omega)] at e2
  have e7 : nck (wpt b) = some (wpt b) := rfl
  have e8 : fld 0 (wpt b) = some (wpt b) := rfl
  have e9 : ((bls 1 (List.replicate 1 [(.int .u8 0)]) [(0, u8 (y : Int))]).bind fun rows => als s1 1 1 rows) = some (.slice (some ⟨s1.n, 0, some 0⟩) 1 2, s1.new (.row 1 [[u8 (y : Int)]] false)) := rfl
  unfold pack_writer_number.v pack_writer_number.t
  simp only [u8] at e2 e9 p1
  simp only [std_bd, std_cnd, std_it, q, List.getD_cons_zero, List.getD_cons_succ, e2, e7, e8, e9, hv, p1, p2, Option.bind_some]
end Go.Proofs.Ytmbfnpadhlfepaa
