/-
  Many bytes appended at once; the reference's bytes of a number, of a whole number, of a key.
-/
import Derived.Test.YtmbfnpadhlfepaaPakG
set_option linter.unusedSimpArgs false
set_option linter.unusedVariables false
set_option maxRecDepth 100000
set_option maxHeartbeats 4000000
namespace Go.Proofs.Ytmbfnpadhlfepaa
open Go.Sim Go.Sim.Bt
attribute [local congr] bdc cndc itec gdc gdSc gdUc

theorem put_self {s : St} {b : Nat} {k : Blk} (h : s.get b = some k) (x : Nat) : (s.put b k).get x = s.get x := by
  by_cases e : x = b
  · subst e; rw [get_put_same h, h]
  · exact get_put_ne e
theorem app_ful {s0 s : St} {v w : Value} {rows news : List (List Value)} (f : Fresh s) (h : Ful s0.n s 1 v rows) (m : More s0 s) (hl : lenV w = some news.length) (hr : rowsOf s 1 news.length w = some news) (hb : rows.length + news.length ≤ 140737488355328) :
    ∃ v' s', app s 1 1 v w = some (v', s') ∧ More s0 s' ∧ Ful s0.n s' 1 v' (rows ++ news) ∧ Fresh s' := by
  rcases Nat.eq_zero_or_pos news.length with e0 | e0
  · have en : news = [] := List.eq_nil_of_length_eq_zero e0
    subst en
    rw [List.append_nil]
    rcases h with ⟨rfl, rfl⟩ | ⟨b, e, h0, rfl, hg, he⟩
    · exact ⟨_, _, app_nil0 hl hr, m, .inl ⟨rfl, rfl⟩, f⟩
    · simp only [List.length_nil] at hl hr hb
      rcases he with rfl | rfl
      · refine ⟨.slice (some ⟨b, 0, some 0⟩) rows.length 1, s, ?_, m, .inr ⟨b, 1, h0, rfl, hg, .inl rfl⟩, f⟩
        simp only [app, hl, hr, hg]
        rw [if_pos ⟨trivial, by omega⟩, if_pos ⟨by omega, by omega⟩]
        simp
      · refine ⟨.slice (some ⟨b, 0, some 0⟩) rows.length (2 * rows.length), s.put b (.row 1 rows false), ?_, m.put h0, .inr ⟨b, _, h0, rfl, get_put_same hg, .inr rfl⟩, f.put⟩
        simp only [app, hl, hr, hg]
        rw [if_pos ⟨trivial, by omega⟩, if_pos ⟨by omega, by omega⟩, if_neg (by omega), if_pos (by omega)]
        simp
  · rcases h with ⟨rfl, rfl⟩ | ⟨b, e, h0, rfl, hg, he⟩
    · refine ⟨_, _, app_nil hl hr e0 (by simp at hb; omega) (by simp at hb; omega), m.trans .new, .inr ⟨s.n, 1, m.n, by simp, get_new_same, .inl rfl⟩, f.new⟩
    · rcases he with rfl | rfl
      · refine ⟨_, _, app_own hl hr hg (Nat.le_refl _) e0 (by omega) (by omega), (m.del h0).trans .new, .inr ⟨s.n, 1, m.n, by simp, ?_, .inl rfl⟩, f.del.new⟩
        rw [List.take_length]; exact get_new_same (s := s.del b)
      · refine ⟨_, _, app_full hl hr hg (by omega) (by omega) (by omega) (by omega) (by omega), m.trans .new, .inr ⟨s.n, 1, m.n, by simp, ?_, .inl rfl⟩, f.new⟩
        simp only [List.drop_zero, List.take_length]
        exact get_new_same
theorem Ful.lenV {n0 sz : Nat} {s : St} {v : Value} {rows : List (List Value)} (h : Ful n0 s sz v rows) : lenV v = some rows.length := by
  rcases h with ⟨rfl, rfl⟩ | ⟨b, e, h0, rfl, hg, he⟩ <;> rfl
theorem Ful.rowsOf {n0 sz : Nat} {s : St} {v : Value} {rows : List (List Value)} (h : Ful n0 s sz v rows) : rowsOf s sz rows.length v = some rows := by
  rcases h with ⟨rfl, rfl⟩ | ⟨b, e, h0, rfl, hg, he⟩
  · rfl
  · rw [rowsOf_row hg (Nat.le_refl _) (by omega)]; simp

/-- A function that makes bytes in new memory alone. -/
def Mk (s : St) (r : Option (Value × St)) (l : List Int) : Prop := ∃ v s', r = some (v, s') ∧ More s s' ∧ Ful s.n s' 1 v (br l) ∧ Fresh s'
theorem bls1 (s : St) (y : Int) : ((bls 1 (List.replicate 1 [(.int .u8 0)]) [(0, .int .u8 y)]).bind fun rows => als s 1 1 rows) = some (.slice (some ⟨s.n, 0, some 0⟩) 1 2, s.new (.row 1 [[.int .u8 y]] false)) := rfl
theorem br_one {s0 s : St} {v : Value} {l : List Int} (f : Fresh s) (h : Ful s0.n s 1 v (br l)) (m : More s0 s) (y : Int) (hl : l.length + 1 ≤ 140737488355328) :
    ∃ v' s', app (s.new (.row 1 [[.int .u8 y]] false)) 1 1 v (.slice (some ⟨s.n, 0, some 0⟩) 1 2) = some (v', s') ∧ More s0 s' ∧ Ful s0.n s' 1 v' (br (l ++ [y])) ∧ Fresh s' := by
  obtain ⟨v', s', h1, h2, h3, h4, _⟩ := push f h m (by_ := 1) [.int .u8 y] (by rw [br_length]; omega) (by rw [br_length]; omega)
  exact ⟨v', s', h1, h2, by rw [br_append]; exact h3, h4⟩
theorem br_app {s0 s : St} {v w : Value} {l m : List Int} {n1 : Nat} (f : Fresh s) (h : Ful s0.n s 1 v (br l)) (k : Ful n1 s 1 w (br m)) (mo : More s0 s) (hl : l.length + m.length ≤ 140737488355328) :
    ∃ v' s', app s 1 1 v w = some (v', s') ∧ More s0 s' ∧ Ful s0.n s' 1 v' (br (l ++ m)) ∧ Fresh s' := by
  have e1 := k.lenV
  have e2 := k.rowsOf
  obtain ⟨v', s', h1, h2, h3, h4⟩ := app_ful f h mo e1 e2 (by simp [br_length]; exact hl)
  exact ⟨v', s', h1, h2, by rw [br_append]; exact h3, h4⟩

theorem rnumloop {s0 : St} : ∀ (d x : Nat), x < 2 ^ (7 * (d + 1)) → x < 2 ^ 64 → ∀ {s : St} {v : Value} {l : List Int}, Fresh s → Ful s0.n s 1 v (br l) → More s0 s → l.length + d + 1 ≤ 140737488355328 →
    ∃ v' s' y fr, (∀ k, iter (leapfrogref03x_number.l2 std) (k + d + 1) [.int .u64 (x : Int), v] s = some (0, [.int .u64 ((y : Nat) : Int), v'], s')) ∧ y < 128 ∧ numB x = fr ++ [(y : Int)] ∧ fr.length ≤ d ∧ Ful s0.n s' 1 v' (br (l ++ fr)) ∧ More s0 s' ∧ Fresh s'
  | d, x, hx, h64, s, v, l, f, h, m, hl => by
    by_cases h1 : x < 128
    · refine ⟨v, s, x, [], fun k => ?_, h1, by rw [numB, dif_pos h1]; rfl, Nat.zero_le _, by simpa using h, m, f⟩
      have e1 : bin .geq (.int .u64 (x : Int)) (.int .u64 128) = some (.bool false) := by
        rw [bin_geq, decide_eq_false (by omega)]
      rw [iter_succ]
      unfold leapfrogref03x_number.l2
      simp only [std_bd, std_cnd, List.getD_cons_zero, List.getD_cons_succ, e1, Option.bind_some, cnd]
    · cases d with
      | zero => simp at hx; omega
      | succ d =>
        obtain ⟨v1, s1, p1, p2, p3, p4⟩ := br_one f h m ((x % 128 + 128 : Nat) : Int) (by omega)
        have hx2 : x / 128 < 2 ^ (7 * (d + 1)) := by
          rw [show 7 * (d + 1 + 1) = 7 * (d + 1) + 7 by omega, Nat.pow_add] at hx
          exact Nat.div_lt_of_lt_mul (by rw [Nat.mul_comm]; exact hx)
        obtain ⟨v', s', y, fr, q1, q2, q3, q4, q5, q6, q7⟩ := rnumloop d (x / 128) hx2 (by omega) p4 p3 p2 (by simp; omega)
        refine ⟨v', s', y, ((x % 128 + 128 : Nat) : Int) :: fr, fun k => ?_, q2, by rw [numB, dif_neg h1, q3]; rfl, by simp; omega, by simpa using q5, q6, q7⟩
        have e1 : bin .geq (.int .u64 (x : Int)) (.int .u64 128) = some (.bool true) := by
          rw [bin_geq, decide_eq_true (by omega)]
        have e2 : bin .rem (.int .u64 (x : Int)) (.int .u64 128) = some (.int .u64 ((x % 128 : Nat) : Int)) := by
          rw [bin_rem (by omega), Int.tmod_eq_emod_of_nonneg (by omega)]; rfl
        have e3 := cvi_u8 .u64 (x % 128)
        rw [Nat.mod_eq_of_lt (show x % 128 < 256 by omega)] at e3
        have e4 : bin .add (.int .u8 ((x % 128 : Nat) : Int)) (.int .u8 128) = some (.int .u8 ((x % 128 + 128 : Nat) : Int)) := by
          rw [bin_add, wrapu8 (by omega) (by omega)]; rfl
        have e5 := quo_u64 (a := x) (b := 128) h64 (by omega)
        rw [show ((128 : Nat) : Int) = 128 from rfl] at e5
        rw [show k + (d + 1) + 1 = (k + d + 1) + 1 by omega, iter_succ]
        unfold leapfrogref03x_number.l2
        simp only [u8] at e3
        simp only [std_bd, std_cnd, List.getD_cons_zero, List.getD_cons_succ, e1, e2, e3, e4, e5, bls1, p1, Option.bind_some, cnd]
        exact q1 k
theorem numB_len : ∀ (d x : Nat), x < 2 ^ (7 * (d + 1)) → (numB x).length ≤ d + 1
  | d, x, h => by
    rw [numB]
    split
    · simp
    · cases d with
      | zero => simp at h; omega
      | succ d =>
        have hx2 : x / 128 < 2 ^ (7 * (d + 1)) := by
          rw [show 7 * (d + 1 + 1) = 7 * (d + 1) + 7 by omega, Nat.pow_add] at h
          exact Nat.div_lt_of_lt_mul (by rw [Nat.mul_comm]; exact h)
        have := numB_len d (x / 128) hx2
        simp; omega
theorem numB_le {x : Nat} (h : x < 2 ^ 64) : (numB x).length ≤ 10 := numB_len 9 x (Nat.lt_of_lt_of_le h (by decide))
theorem rnumber_v {s : St} (x : Nat) (h64 : x < 2 ^ 64) (f : Fresh s) : Mk s (leapfrogref03x_number.v (.int .u64 (x : Int)) s) (numB x) := by
  obtain ⟨v1, s1, y, fr, q1, q2, q3, q4, q5, q6, q7⟩ := rnumloop (s0 := s) 9 x (Nat.lt_of_lt_of_le h64 (by decide)) h64 f (v := .slice none 0 0) (l := []) (.inl ⟨rfl, rfl⟩) (.refl _) (by simp)
  obtain ⟨v', s', p1, p2, p3, p4⟩ := br_one q7 q5 q6 (y : Int) (by simp; omega)
  refine ⟨v', s', ?_, p2, by rw [q3]; simpa using p3, p4⟩
  have q := q1 (BIG - 10)
  rw [show BIG - 10 + 9 + 1 = BIG from rfl] at q
  have e2 := cvi_u8 .u64 y
  rw [Nat.mod_eq_of_lt (by omega)] at e2
  unfold leapfrogref03x_number.v leapfrogref03x_number.t
  simp only [u8] at e2
  simp only [std_bd, std_cnd, std_it, q, List.getD_cons_zero, List.getD_cons_succ, e2, bls1, p1, Option.bind_some]

/-- A whole number, as one that isn't below 0. -/
def zz (i : Int) : Nat := if i < 0 then (2 * (-(i + 1)) + 1).toNat else (2 * i).toNat
theorem zz_lt {i : Int} (h1 : -9223372036854775808 ≤ i) (h2 : i ≤ 9223372036854775807) : zz i < 2 ^ 64 := by
  unfold zz; split <;> omega
theorem rwhole_v {s : St} {i : Int} (h1 : -9223372036854775808 ≤ i) (h2 : i ≤ 9223372036854775807) (f : Fresh s) : Mk s (leapfrogref03x_whole.v (.int .i64 i) s) (numB (zz i)) := by
  obtain ⟨v, s', g1, g⟩ := rnumber_v (s := s) (zz i) (zz_lt h1 h2) f
  refine ⟨v, s', ?_, g⟩
  by_cases h : i < 0
  · have e1 : IntKind.i64.wrap (i + 1) = i + 1 := wrap64 (by omega) (by omega)
    have e0 : un .neg (.int .i64 (i + 1)) = some (.int .i64 (-(i + 1))) := by
      rw [← wrap64 (n := -(i + 1)) (by omega) (by omega)]; simp [un, Op.unary, run0, Op.intArith]; rfl
    have e2 : IntKind.u64.wrap (-(i + 1)) = -(i + 1) := wrapu64 (by omega) (by omega)
    have e3 : IntKind.u64.wrap (-(i + 1) * 2) = -(i + 1) * 2 := wrapu64 (by omega) (by omega)
    have e4 : IntKind.u64.wrap (-(i + 1) * 2 + 1) = (zz i : Int) := by
      rw [wrapu64 (by omega) (by omega)]; unfold zz; rw [if_pos h]; omega
    simp only [leapfrogref03x_whole.v, leapfrogref03x_whole.t, sy, reduceIte, Nat.reduceAdd, Nat.reduceLeDiff, Nat.reduceLT, Nat.reduceEqDiff, Int.reduceEq, Int.reduceLT, Int.reduceLE, Int.reduceNe, ly, h, e0, e1, e2, e3, e4, g1]
  · have e2 : IntKind.u64.wrap i = i := wrapu64 (by omega) (by omega)
    have e3 : IntKind.u64.wrap (i * 2) = (zz i : Int) := by
      rw [wrapu64 (by omega) (by omega)]; unfold zz; rw [if_neg h]; omega
    simp only [leapfrogref03x_whole.v, leapfrogref03x_whole.t, sy, reduceIte, Nat.reduceAdd, Nat.reduceLeDiff, Nat.reduceLT, Nat.reduceEqDiff, Int.reduceEq, Int.reduceLT, Int.reduceLE, Int.reduceNe, ly, h, e2, e3, g1]

theorem rkeyloop {s0 : St} (r : Int) (n : Nat) (hn : n < 2 ^ 64) : ∀ (m : Nat), m ≤ 8 → ∀ {s : St} {v : Value} {l : List Int}, Fresh s → Ful s0.n s 1 v (br l) → More s0 s → l.length + m ≤ 140737488355328 →
    ∃ v' s', (∀ k, iter (leapfrogref03x_KeyBytes.l4 std) (k + m + 1) [v, .int .i64 ((m : Int) - 1), .agg ⟨[.int .i64 r, .int .u64 (n : Int)]⟩] s = some (0, [v'], s')) ∧ Ful s0.n s' 1 v' (br (l ++ kb n m)) ∧ More s0 s' ∧ Fresh s'
  | 0, _, s, v, l, f, h, m, _ => ⟨v, s, fun k => by
      rw [iter_succ]
      simp only [leapfrogref03x_KeyBytes.l4, sy, reduceIte, Nat.reduceAdd, Nat.reduceLeDiff, Nat.reduceLT, Nat.reduceEqDiff, Int.reduceEq, Int.reduceLT, Int.reduceLE, Int.reduceNe, ly]
      rfl, by simpa [kb] using h, m, f⟩
  | m + 1, hm, s, v, l, f, h, mo, hl => by
    obtain ⟨v1, s1, p1, p2, p3, p4⟩ := br_one f h mo ((n / 2 ^ (8 * m) % 256 : Nat) : Int) (by omega)
    obtain ⟨v', s', q1, q2, q3, q4⟩ := rkeyloop r n hn m (by omega) p4 p3 p2 (by simp; omega)
    refine ⟨v', s', fun k => ?_, by rw [kb, List.append_cons]; exact q2, q3, q4⟩
    rw [show ((m + 1 : Nat) : Int) - 1 = (m : Int) by omega, show k + (m + 1) + 1 = (k + m + 1) + 1 by omega, iter_succ]
    have c : m = 0 ∨ m = 1 ∨ m = 2 ∨ m = 3 ∨ m = 4 ∨ m = 5 ∨ m = 6 ∨ m = 7 := by omega
    have e1 : bin .mul (.int .i64 8) (.int .i64 (m : Int)) = some (.int .i64 ((8 * m : Nat) : Int)) := by rcases c with rfl | rfl | rfl | rfl | rfl | rfl | rfl | rfl <;> rfl
    have e2 := power_r (8 * m) s (by omega)
    have e3 := quo_u64 (a := n) (b := 2 ^ (8 * m)) hn (Nat.two_pow_pos _)
    have e4 := cvi_u8 .u64 (n / 2 ^ (8 * m))
    have e5 : bin .geq (.int .i64 (m : Int)) (.int .i64 0) = some (.bool true) := by rcases c with rfl | rfl | rfl | rfl | rfl | rfl | rfl | rfl <;> rfl
    have e6 : bin .sub (.int .i64 (m : Int)) (.int .i64 1) = some (.int .i64 ((m : Int) - 1)) := by rcases c with rfl | rfl | rfl | rfl | rfl | rfl | rfl | rfl <;> rfl
    unfold leapfrogref03x_KeyBytes.l4
    simp only [u8] at e4
    simp only [std_bd, std_cnd, List.getD_cons_zero, List.getD_cons_succ, cellsA, lcl, List.getElem?_cons_succ, List.getElem?_cons_zero, e1, e2, e3, e4, e5, e6, bls1, p1, Option.bind_some, cnd]
    exact q1 k
theorem keyB_len (r : Int) (n : Nat) : (keyB r n).length ≤ 9 := by
  unfold keyB; split <;> simp [kb_length]
theorem rkey_v {s : St} (r : Int) (n : Nat) (hn : n < 2 ^ 64) (f : Fresh s) : Mk s (leapfrogref03x_KeyBytes.v (.agg ⟨[.int .i64 r, .int .u64 (n : Int)]⟩) s) (keyB r n) := by
  have f1 : Fresh (s.new (.row 1 (br [IntKind.u8.wrap r]) false)) := f.new
  have h1 : Ful s.n (s.new (.row 1 (br [IntKind.u8.wrap r]) false)) 1 (.slice (some ⟨s.n, 0, some 0⟩) 1 2) (br [IntKind.u8.wrap r]) := .inr ⟨s.n, 2, Nat.le_refl _, rfl, get_new_same, .inr rfl⟩
  have m1 : More s (s.new (.row 1 (br [IntKind.u8.wrap r]) false)) := .new
  have e0 : s.new (.row 1 [[.int .u8 (IntKind.u8.wrap r)]] false) = s.new (.row 1 (br [IntKind.u8.wrap r]) false) := rfl
  generalize hs1 : s.new (.row 1 (br [IntKind.u8.wrap r]) false) = s1 at *
  unfold keyB
  by_cases h2 : r = 2
  · obtain ⟨v', s', q1, q2, q3, q4⟩ := rkeyloop (s0 := s) r n hn 8 (by omega) f1 h1 m1 (by simp)
    refine ⟨v', s', ?_, q3, by rw [if_pos h2]; simpa using q2, q4⟩
    have q := q1 (BIG - 9)
    rw [show BIG - 9 + 8 + 1 = BIG from rfl, show ((8 : Nat) : Int) - 1 = 7 from rfl] at q
    have ee : (r = 2) = True := eq_true h2
    have el : bx (.agg ⟨[.int .i64 r, .int .u64 (n : Int)]⟩) = some [.int .i64 r, .int .u64 (n : Int)] := rfl
    have ec : cvi .u8 (.int .i64 r) = some (.int .u8 (IntKind.u8.wrap r)) := rfl
    have eq2 : eqb [1] false false (.int .i64 r) (.int .i64 2) = some (.bool true) := by rw [eqb1, decide_eq_true h2]
    unfold leapfrogref03x_KeyBytes.v leapfrogref03x_KeyBytes.t
    simp only [std_bd, std_cnd, std_it, el, lcl, List.getElem?_cons_zero, ec, bls1, e0, eq2, q, Option.bind_some, cnd, List.getD_cons_zero]
  · refine ⟨_, s1, ?_, m1, by rw [if_neg h2]; exact h1, f1⟩
    have el : bx (.agg ⟨[.int .i64 r, .int .u64 (n : Int)]⟩) = some [.int .i64 r, .int .u64 (n : Int)] := rfl
    have ec : cvi .u8 (.int .i64 r) = some (.int .u8 (IntKind.u8.wrap r)) := rfl
    have eq2 : eqb [1] false false (.int .i64 r) (.int .i64 2) = some (.bool false) := by rw [eqb1, decide_eq_false h2]
    unfold leapfrogref03x_KeyBytes.v leapfrogref03x_KeyBytes.t
    simp only [std_bd, std_cnd, std_it, el, lcl, List.getElem?_cons_zero, ec, bls1, e0, eq2, Option.bind_some, cnd]
end Go.Proofs.Ytmbfnpadhlfepaa
