/-
  vec.Text, which writes into a strings.Builder, walked through the model: the text of a vector's bits.
-/
import Derived.Test.YtgdloihagiddhaaVecC
import Derived.Test.YtgdloihagiddhaaSymB
import Derived.Test.YtgdloihagiddhaaShelf
import Derived.Shelf.Strings.Builder1
import Derived.WalkKit
import Derived.BigCall
import Derived.Lib.Hide
set_option linter.unusedVariables false
set_option linter.unusedSimpArgs false
namespace Go.Proofs.Ytgdloihagiddhaa
open Go.Sim.Bt
open Go.Sim (FnOk rel_nil VsRel VRel)
open Go.RowKit

def dig (d : Nat) : UInt8 := UInt8.ofNat (48 + d)
def tx (n b : Nat) : List UInt8 := (bl n b).map dig

theorem X72 : ∃ j, Try.prog.info? 65 = some j ∧ j.size = 2 := by
  obtain ⟨j, hj, h⟩ := Option.map_eq_some_iff.1 Try.Builder_Extra_169.sizeBuilder
  exact ⟨j, hj, h⟩

set_option maxHeartbeats 1000000 in
set_option maxRecDepth 100000 in
theorem copyCheck_used (b : Nat) (w : World) (h0 : w.cell? ⟨b, 0, none⟩ = some (.pointer (some ⟨b, 0, none⟩))) :
    Calls Try.prog 56 #[.pointer (some ⟨b, 0, none⟩)] w fun e w' => e = .returned (.tuple #[]) ∧ w' = w := by
  obtain ⟨j, hj, _⟩ := X72
  go_enter Try.func56, Try.ntmps56
  go_wp2
  rw [Lib.run_neq_ptr_same w _ Try.underlying62 hj]
  go_wp2
  go_end0
  exact ⟨rfl, rfl⟩

set_option maxHeartbeats 1000000 in
set_option maxRecDepth 100000 in
theorem copyCheck_fresh (b : Nat) (w : World) (h0 : w.cell? ⟨b, 0, none⟩ = some (.pointer none)) (hsh : w.shape? b = some (65, 2)) (hfz : w.frozen? ⟨b, 0, none⟩ = false) :
    Calls Try.prog 56 #[.pointer (some ⟨b, 0, none⟩)] w fun e w' => e = .returned (.tuple #[]) ∧ w' = w.setCell ⟨b, 0, none⟩ (.pointer (some ⟨b, 0, none⟩)) := by
  obtain ⟨j, hj, hjs⟩ := X72
  go_enter Try.func56, Try.ntmps56
  go_wp2
  rw [Lib.run_to_unsafe w ⟨b, 0, none⟩ Try.underlying62 Try.underlying85 hj (by rw [hjs]; decide) hsh (Nat.zero_lt_succ 1)]
  simp only [Result.andThen]
  rw [Oper.upon_value]
  go_wp2
  rw [run_callFunc_extern Try.func59 (by kernel_rfl) (by kernel_rfl) (by kernel_rfl) (e := Extern.AbiNoEscape.same) (by kernel_rfl)]
  rw [Lib.run_noEscape]
  simp only [Result.andThen]
  rw [Oper.upon_value]
  go_wp2
  rw [Lib.run_from_unsafe w ⟨b, 0, none⟩ Try.underlying85 Try.underlying62 hj hsh Try.Builder_Extra_169.liesBuilder]
  simp only [Result.andThen]
  rw [Oper.upon_value]
  go_wp2
  go_end0
  exact ⟨rfl, rfl⟩

theorem copyCheck (B b : Nat) (bs : List Value) (w : World) (h : Lib.IsBuilder 65 5 B b bs w) :
    Calls Try.prog 56 #[.pointer (some ⟨b, 0, none⟩)] w fun e w' => e = .returned (.tuple #[]) ∧ (Lib.BuilderAt 65 5 B b (.pointer (some ⟨b, 0, none⟩)) bs w' ∧ Below B w w') := by
  rcases h with h | h
  · refine (copyCheck_fresh b w h.cell0 h.shape h.frozen0).mono ?_
    rintro e w' ⟨rfl, rfl⟩
    exact ⟨rfl, h.used _, (Below.refl B w).setCell (p := ⟨b, 0, none⟩) h.1 _⟩
  · refine (copyCheck_used b w h.cell0).mono ?_
    rintro e w' ⟨rfl, rfl⟩
    exact ⟨rfl, h, Below.refl B _⟩

set_option maxHeartbeats 2000000 in
set_option maxRecDepth 100000 in
theorem writeByte (B b : Nat) (bs : List Value) (c : Int) (w : World) (h : Lib.IsBuilder 65 5 B b bs w) (hlen : bs.length + 1 ≤ 140737488355328) (hBw : B ≤ w.heap.size) :
    Calls Try.prog 41 #[.pointer (some ⟨b, 0, none⟩), .int .u8 c] w fun e w' => e = .returned .nilIface ∧ (Lib.BuilderAt 65 5 B b (.pointer (some ⟨b, 0, none⟩)) (bs ++ [.int .u8 c]) w' ∧ Below B w w') := by
  obtain ⟨i0, hi, hz0, hz1, hz2⟩ := info_parts Try.Builder_Extra_169.infoByte
  have e240 : ∀ args w, (callFunc 56 args).run Try.prog w = .ok (.enter 56 args) w := enters_of Try.func56 (by kernel_rfl) rfl
  go_enter Try.func41, Try.ntmps41
  go_wp2_with (go_at_fn 56; refine (copyCheck B b bs _ h).mono ?_)
  rintro e w1 ⟨rfl, h1, hb1⟩
  obtain ⟨hB, v, hbk, hown, hne⟩ := h1
  have c0 : w1.cell? ⟨b, 0, none⟩ = some (.pointer (some ⟨b, 0, none⟩)) := by rw [Lib.cell_of_heap hbk]; rfl
  have c1 : w1.cell? ⟨b, 1, none⟩ = some v := by rw [Lib.cell_of_heap hbk]; rfl
  go_wp2_with (at_builtin; refine wpList_append_own _ rfl _ _ 63 rfl B 5 i0 (.int .u8 0) 1 1 Try.underlying63 hi hz0 hz1 hz2 rfl (by decide) _ _ _ rfl (hown.alloc _) ⟨w1.heap.size, 0, none⟩ 1 1 [.int .u8 c] rfl rfl ?c1 ?c2 ?c3 ?c4 ?c5 ?_)
  case c1 =>
    intro j u hj
    match j, hj with
    | 0, hj => simp at hj; subst hj; simp [Addr.add]
  case c2 => intro u hu; simp at hu; subst hu; rfl
  case c3 => unfold maxLen; omega
  case c4 => omega
  case c5 => have := hb1.size; simp; omega
  intro v' w2 hown' hgrow _
  have hlt : b < w1.heap.size := by
    rcases Nat.lt_or_ge b w1.heap.size with h' | h'
    · exact h'
    · simp [Array.getElem?_eq_none h'] at hbk
  have hb2 : w2.heap[b]? = some (.cells #[.pointer (some ⟨b, 0, none⟩), v] 65 (0, 0)) := by
    rw [hgrow.block b (by simp; omega) (fun e => hne e.symm), Lib.alloc_old w1 _ b hlt]
    exact hbk
  have d0 : w2.cell? ⟨b, 0, none⟩ = some (.pointer (some ⟨b, 0, none⟩)) := by rw [Lib.cell_of_heap hb2]; rfl
  have d1 : w2.cell? ⟨b, 1, none⟩ = some v := by rw [Lib.cell_of_heap hb2]; rfl
  have f1 : w2.frozen? ⟨b, 1, none⟩ = false := Lib.frozen_of_heap hb2 1
  obtain ⟨g, cap, rfl⟩ : ∃ g cap, v' = .slice (some ⟨g, 0, none⟩) (bs.length + 1) cap := by
    rcases hown'.2 with ⟨_, h0⟩ | ⟨g, cap, cur, hv, _⟩
    · omega
    · exact ⟨g, cap, hv⟩
  go_wp2
  go_ret
  refine ⟨rfl, ?_, ?_⟩
  · exact Lib.BuilderAt.put (T := 65) (e := 5) hB hb2 (bs' := bs ++ [.int .u8 c]) (by simpa using hown') Try.Builder_Extra_169.neB5
  · exact ((hb1.alloc (by have := hb1.size; omega) _).grown hgrow (by have := hb1.size; simp; omega) (fun k hk => (hown.lt k hk).1)).setCell (p := ⟨b, 1, none⟩) hB _
theorem ownsRow_below {B : Nat} {e : TypeId} {k : Nat} {v : Value} {n : Nat} {xs : List Value} {w w' : World} (h : w.ownsRow B e k v n xs) (hb : Below w.heap.size w w') : w'.ownsRow B e k v n xs :=
  h.kept (row := none) ⟨hb.os, hb.tape, hb.output, hb.size, fun j hj _ => hb.block j hj⟩ (by cases hv : v.ownBlock <;> simp)
theorem builder_below {B b : Nat} {bs : List Value} {w w' : World} (h : Lib.IsBuilder 65 5 B b bs w) (hb : Below w.heap.size w w') : Lib.IsBuilder 65 5 B b bs w' := by
  rcases h with ⟨h1, v, h2, h3, h4⟩ | ⟨h1, v, h2, h3, h4⟩
  · exact .inl ⟨h1, v, by rw [hb.block b (Array.getElem?_eq_some_iff.1 h2).1]; exact h2, ownsRow_below h3 hb, h4⟩
  · exact .inr ⟨h1, v, by rw [hb.block b (Array.getElem?_eq_some_iff.1 h2).1]; exact h2, ownsRow_below h3 hb, h4⟩

theorem right_calls {n b : Nat} (w : World) (h1 : n ≤ 32) (h2 : b < 2 ^ n) : Calls Try.prog 35 #[.agg #[.int .i64 n, .int .u64 b]] w fun e w' => e = .returned (.int .i64 0) ∧ Below w.heap.size w w' := by
  refine (vec_Right.sound (fun _ => none) ⟨[], 0⟩ w [VV n b] [VV n b] _ (rel_nil w) (VsRel.of_plain _ (by rfl)) (right_ok _ h1 h2)).mono fun e w' he => ?_
  cases e with
  | returned u => exact ⟨by rw [VRel.plain_eq he.2 (by rfl)], he.1.1⟩
  | _ => exact he.elim
theorem right_calls_no {L B : Int} (w : World) (h : ¬ okV L B) (hB : 0 ≤ B) : Calls Try.prog 35 #[.agg #[.int .i64 L, .int .u64 B]] w fun e w' => e = .returned (.int .i64 10) ∧ Below w.heap.size w w' := by
  refine (vec_Right.sound (fun _ => none) ⟨[], 0⟩ w [VI L B] [VI L B] _ (rel_nil w) (VsRel.of_plain _ (by rfl)) (right_no _ h hB)).mono fun e w' he => ?_
  cases e with
  | returned u => exact ⟨by rw [VRel.plain_eq he.2 (by rfl)], he.1.1⟩
  | _ => exact he.elim
theorem bit_calls {n b i : Nat} (w : World) (h1 : n ≤ 32) (h2 : b < 2 ^ n) (hi : i < n) : Calls Try.prog 42 #[.agg #[.int .i64 n, .int .u64 b], .int .i64 i] w fun e w' => e = .returned (.int .i64 ((b / 2 ^ (n - 1 - i) % 2 : Nat) : Int)) ∧ Below w.heap.size w w' := by
  refine (vec_bit.sound (fun _ => none) ⟨[], 0⟩ w [VV n b, .int .i64 i] [VV n b, .int .i64 i] _ (rel_nil w) (VsRel.of_plain _ (by rfl)) (bit_r _ h1 h2 hi)).mono fun e w' he => ?_
  cases e with
  | returned u => exact ⟨by rw [VRel.plain_eq he.2 (by rfl)], he.1.1⟩
  | _ => exact he.elim

theorem new2 (w : World) (x y : Value) (T : TypeId) : (w.alloc (.cells #[x, y] T)).cell? ⟨w.heap.size, 0, none⟩ = some x ∧ (w.alloc (.cells #[x, y] T)).cell? ⟨w.heap.size, 1, none⟩ = some y := by
  have h : (w.alloc (.cells #[x, y] T)).heap[w.heap.size]? = some (.cells #[x, y] T) := by unfold World.alloc; simp
  exact ⟨by rw [Lib.cell_of_heap h]; rfl, by rw [Lib.cell_of_heap h]; rfl⟩
theorem bcell {W w1 : World} {B : Nat} (hb : Below B W w1) : (∀ b o, b < B → w1.cell? ⟨b, o, none⟩ = W.cell? ⟨b, o, none⟩) :=
  fun b o h => hb.cell (p := ⟨b, o, none⟩) h

set_option maxHeartbeats 1000000 in
set_option maxRecDepth 100000 in
theorem text_no {L B : Int} (w : World) (h : ¬ okV L B) (hB : 0 ≤ B) : Calls Try.prog 11 #[.agg #[.int .i64 L, .int .u64 B]] w fun e w' => e = .returned (.tuple #[.string ⟨#[]⟩, .int .i64 10]) ∧ Below w.heap.size w w' := by
  go_enter Try.func11, Try.ntmps11
  go_wp2_with (go_at_call 35; refine (right_calls_no _ h hB).mono ?_)
  rintro e w1 ⟨rfl, hb1⟩
  go_wp2
  go_ret2
  exact ⟨rfl, ((Below.refl _ w).alloc (Nat.le_refl _) _).trans (hb1.mono (by simp))⟩

set_option maxHeartbeats 1000000 in
set_option maxRecDepth 100000 in
theorem text_0 (w : World) : Calls Try.prog 11 #[.agg #[.int .i64 0, .int .u64 0]] w fun e w' => e = .returned (.tuple #[.string ⟨#[46]⟩, .int .i64 0]) ∧ Below w.heap.size w w' := by
  go_enter Try.func11, Try.ntmps11
  go_wp2_with (go_at_call 35; refine (right_calls (n := 0) (b := 0) _ (by omega) (by omega)).mono ?_)
  rintro e w1 ⟨rfl, hb1⟩
  have hc0 : w1.cell? ⟨w.heap.size, 0, none⟩ = some (.int .i64 0) := by rw [bcell hb1 _ _ (by simp)]; exact (new2 w _ _ _).1
  have hc1 : w1.cell? ⟨w.heap.size, 1, none⟩ = some (.int .u64 0) := by rw [bcell hb1 _ _ (by simp)]; exact (new2 w _ _ _).2
  go_wp2
  go_ret2
  exact ⟨rfl, ((Below.refl _ w).alloc (Nat.le_refl _) _).trans (hb1.mono (by simp))⟩

theorem dig_int {d : Nat} (h : d < 2) : ((dig d).toNat : Int) = 48 + d := by
  have : d = 0 ∨ d = 1 := by omega
  rcases this with rfl | rfl <;> rfl
theorem byteCells_snoc (l : List UInt8) (c : UInt8) : Lib.byteCells (l ++ [c]) = Lib.byteCells l ++ [.int .u8 c.toNat] := by
  simp [Lib.byteCells]

set_option maxHeartbeats 1000000 in
set_option maxRecDepth 100000 in
theorem text_n {n b : Nat} (w : World) (h0 : 0 < n) (h1 : n ≤ 32) (h2 : b < 2 ^ n) : Calls Try.prog 11 #[.agg #[.int .i64 n, .int .u64 b]] w fun e w' => e = .returned (.tuple #[.string ⟨(tx n b).toArray⟩, .int .i64 0]) ∧ Below w.heap.size w w' := by
  have hn0 : ((n : Int) == 0) = false := by simp; omega
  go_enter Try.func11, Try.ntmps11
  go_wp2_with (go_at_call 35; refine (right_calls _ h1 h2).mono ?_)
  rintro e w1 ⟨rfl, hb1⟩
  have hc0 : w1.cell? ⟨w.heap.size, 0, none⟩ = some (.int .i64 n) := by rw [bcell hb1 _ _ (by simp)]; exact (new2 w _ _ _).1
  have hc1 : w1.cell? ⟨w.heap.size, 1, none⟩ = some (.int .u64 b) := by rw [bcell hb1 _ _ (by simp)]; exact (new2 w _ _ _).2
  have hz1 : w.heap.size < w1.heap.size := by have := hb1.size; simp at this; omega
  have hI0 := Lib.fresh_isBuilder 65 5 w1
  have hbb : Below w1.heap.size w1 (w1.alloc (.cells #[.pointer none, .slice none 0 0] 65)) := (Below.refl _ w1).alloc (Nat.le_refl _) _
  go_wp2
  go_loopw [17] (fun i wr => ∃ k : Nat, k ≤ n ∧ i = .int .i64 k ∧ Lib.IsBuilder 65 5 w1.heap.size w1.heap.size (Lib.byteCells ((tx n b).take k)) wr ∧ Below w1.heap.size w1 wr) (fun i _ => n - (intOf i).toNat)
  case atStart => exact ⟨0, Nat.zero_le _, rfl, hI0, hbb⟩
  case round =>
    obtain ⟨k, hk, rfl, hI, hbw⟩ := hrel
    have hd0 : wr.cell? ⟨w.heap.size, 0, none⟩ = some (.int .i64 n) := by rw [bcell hbw _ _ hz1]; exact hc0
    have hd1 : wr.cell? ⟨w.heap.size, 1, none⟩ = some (.int .u64 b) := by rw [bcell hbw _ _ hz1]; exact hc1
    clear hc0 hc1
    have hlen : (Lib.byteCells ((tx n b).take k)).length ≤ 32 := by rw [Lib.byteCells_length]; simp; omega
    by_cases hlt : k < n
    · go_wp2_with (go_at_call 42; refine (bit_calls _ h1 h2 hlt).mono ?_)
      rintro e W1 ⟨rfl, hb2⟩
      have hI2 := builder_below hI hb2
      have hz2 : w1.heap.size ≤ W1.heap.size := Nat.le_trans hbw.size hb2.size
      go_wp2_with (go_at_call 41; refine (writeByte w1.heap.size w1.heap.size _ _ _ hI2 (by omega) hz2).mono ?_)
      rintro e W2 ⟨rfl, h3, b3⟩
      go_wp2
      go_roundw
      case rel =>
        refine ⟨k + 1, by omega, by go_num, ?_, (hbw.trans (hb2.mono hbw.size)).trans b3⟩
        have hx : (tx n b)[k]? = some (dig (b / 2 ^ (n - 1 - k) % 2)) := by simp only [tx, List.getElem?_map, bl_get hlt, Option.map_some]
        rw [List.take_add_one, hx]
        have hy := dig_int (d := b / 2 ^ (n - 1 - k) % 2) (Nat.mod_lt _ (by omega))
        have hz : ((b / 2 ^ (n - 1 - k) % 2 : Nat) : Int) = (b : Int) / 2 ^ (n - 1 - k) % 2 := by simp
        rw [hz] at hy
        rw [show (some (dig (b / 2 ^ (n - 1 - k) % 2))).toList = [dig (b / 2 ^ (n - 1 - k) % 2)] from rfl, byteCells_snoc, hy]
        exact .inr h3
      case measure => simp [intOf]; omega
    · obtain rfl : k = n := by omega
      rw [List.take_of_length_le (by simp [tx, bl_length])] at hI
      clear hlen
      go_wp2_with (go_at_call 43; refine (Try.Builder_String_any w1.heap.size w1.heap.size _ _ hI hbw.size).mono ?_)
      rintro e W1 ⟨rfl, hb3⟩
      go_wp2
      go_ret2
      exact ⟨rfl, ((Below.refl _ w).alloc (Nat.le_refl _) _).trans ((hb1.mono (by simp)).trans (((hbw.trans hb3)).mono (by omega)))⟩

def okB (L B : Int) : Bool := decide (0 ≤ L ∧ L ≤ 32 ∧ 0 ≤ B ∧ B < 2 ^ L.toNat)
theorem okB_iff {L B : Int} (hB : 0 ≤ B) : okB L B = true ↔ okV L B := by
  simp only [okB, decide_eq_true_eq]
  constructor
  · rintro ⟨h1, h2, _, h3⟩
    refine ⟨L.toNat, B.toNat, by omega, by omega, by omega, ?_⟩
    rw [ipow] at h3
    omega
  · rintro ⟨n, b, rfl, rfl, h1, h2⟩
    refine ⟨by omega, by omega, by omega, ?_⟩
    rw [ipow]
    simp only [Int.toNat_natCast]
    omega
def textOf (L B : Int) : List UInt8 := if L = 0 then [46] else tx L.toNat B.toNat
def vec_Text.w : List Value → Go.Sim.St → Option Value
  | [.agg ⟨[.int .i64 L, .int .u64 B]⟩], _ => if 0 ≤ B then (if okB L B then some (.tuple ⟨[.string ⟨(textOf L B).toArray⟩, .int .i64 0]⟩) else some (.tuple ⟨[.string ⟨#[]⟩, .int .i64 10]⟩)) else none
  | _, _ => none
def vec_Text.r (a0 : Value) (s : Go.Sim.St) : Option Value := vec_Text.w [a0] s
theorem vec_Text.can : Go.Sim.callOk Try.prog 11 = true := by kernel_rfl
theorem vec_Text.sound : FnOk Try.prog 11 (.rd vec_Text.w) := by
  intro φ s w args args' r hr ha hg
  unfold vec_Text.w at hg
  split at hg
  · rename_i L B
    split at hg
    · rename_i hB
      have hp : args' = [.agg #[.int .i64 L, .int .u64 B]] := by
        cases ha with
        | cons a t => cases t; rw [VRel.plain_eq a (by rfl)]
      subst hp
      have fin : ∀ {r' : Value}, Go.Sim.plainV r' = true → (Calls Try.prog 11 #[.agg #[.int .i64 L, .int .u64 B]] w fun e w' => e = .returned r' ∧ Below w.heap.size w w') → r = r' → Calls Try.prog 11 ⟨[.agg #[.int .i64 L, .int .u64 B]]⟩ w fun
          | .returned u, w' => (Below w.heap.size w w' ∧ Go.Sim.Froz w w') ∧ VRel φ r u
          | _, _ => False := by
        rintro r' hp hc rfl
        refine hc.mono fun e w' he => ?_
        obtain ⟨rfl, hb⟩ := he
        exact ⟨⟨hb, Go.Sim.Froz.of_below hb⟩, VRel.of_plain φ hp⟩
      split at hg
      · rename_i hk
        obtain ⟨n, b, rfl, rfl, h1, h2⟩ := (okB_iff hB).1 hk
        cases hg
        by_cases h0 : n = 0
        · subst h0
          obtain rfl : b = 0 := by simpa using h2
          exact fin rfl (text_0 w) rfl
        · refine fin rfl (text_n w (by omega) h1 h2) ?_
          simp only [textOf, if_neg (show ¬ ((n : Int) = 0) by omega), Int.toNat_natCast]
      · rename_i hk
        cases hg
        exact fin rfl (text_no w (fun h => hk ((okB_iff hB).2 h)) hB) rfl
    · simp at hg
  · simp at hg
end Go.Proofs.Ytgdloihagiddhaa
