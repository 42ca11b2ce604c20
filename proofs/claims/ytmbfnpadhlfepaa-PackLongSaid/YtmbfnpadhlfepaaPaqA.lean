/-
  Bytes and kinds that are handed in, cut off.
-/
import Derived.Test.YtmbfnpadhlfepaaPakZ
set_option linter.unusedSimpArgs false
set_option linter.unusedVariables false
set_option maxRecDepth 100000
set_option maxHeartbeats 4000000
namespace Go.Proofs.Ytmbfnpadhlfepaa
open Go.Sim Go.Sim.Bt
attribute [local congr] bdc cndc itec gdc gdSc gdUc

theorem bytes_cut {s : St} {v : Value} (h : ValIs s v) : ∃ n : Nat, lenL v = some (.int .i64 (n : Int)) ∧
    (700 < n → ∃ w bs, slc s 1 v none (some (.int .i64 700)) none = some w ∧ Byt s w (br bs) ∧ okY bs ∧ bs.length = 700) ∧ (¬ 700 < n → ∃ bs, Byt s v (br bs) ∧ okY bs ∧ bs.length = n) := by
  obtain ⟨bs, h1, h2⟩ := val_br h
  have hl := h1.lenL
  rw [br_length] at hl
  refine ⟨bs.length, hl, fun hn => ?_, fun hn => ⟨bs, h1, h2, rfl⟩⟩
  obtain ⟨w, l, g1, g2, g3, g4⟩ := val_cut h hl (k := 700) (by omega)
  exact ⟨w, l, g1, g2, g4, g3⟩
abbrev KdIs (s : St) (v : Value) : Prop := Leaf.Is s (.sl [.i .i64]) v
theorem rows_kr {s : St} : ∀ {rows : List (List Value)}, (∀ r ∈ rows, Leaf.Are s [.i .i64] r) → ∃ ks, rows = kr ks
  | [], _ => ⟨[], rfl⟩
  | r :: rows, h => by
    have h1 := h r (by simp)
    unfold Leaf.Are Leaf.Are Leaf.Is at h1
    obtain ⟨_, _, rfl, ⟨n, rfl, hn⟩, rfl⟩ := h1
    obtain ⟨ks, rfl⟩ := rows_kr (rows := rows) fun x hx => h x (by simp [hx])
    exact ⟨n :: ks, rfl⟩
theorem IsR.pers' {sz : Nat} {s : St} {v : Value} {rows : List (List Value)} (h : IsR s sz v rows) (f : Fresh s) : Pers s.n s fun s => IsR s sz v rows := h.pers f
/-- Few kinds. -/
theorem kinds_few {s s' : St} {v : Value} (h : KdIs s v) (f : Fresh s) (m : More s s') : ∃ w ks, leapfroglaw03x_fewKinds.r v s' = some w ∧ KL s.n s w ks ∧ ks.length ≤ 20 := by
  unfold KdIs Leaf.Is at h
  rcases h with rfl | ⟨b, len, cap, rows, rfl, g1, g2, g3, g4, g5⟩
  · refine ⟨.slice none 0 0, [], ?_, IsR.pers (.inl ⟨rfl, rfl⟩) f, by simp⟩
    simp only [leapfroglaw03x_fewKinds.r, leapfroglaw03x_fewKinds.t, sy, reduceIte, Nat.reduceAdd, Nat.reduceLeDiff, Nat.reduceLT, Nat.reduceEqDiff, Int.reduceEq, Int.reduceLT, Int.reduceLE, Int.reduceNe, ly]
    rfl
  · have g3 : s.get b = some (.row 1 rows true) := g3
    have g3' := m.get f g3
    by_cases c : 20 < len
    · obtain ⟨ks, hks⟩ := rows_kr (rows := rows.take 20) fun r hr => g5 r (List.mem_of_mem_take hr)
      have hlen : ks.length = 20 := by
        have := congrArg List.length hks
        simp [kr] at this; omega
      have c' : (20 : Int) < (len : Int) := by omega
      have hs : slc s' 1 (.slice (some ⟨b, 0, some 0⟩) len (2 * cap)) none (some (.int .i64 20)) none = some (.slice (some ⟨b, 0, some 0⟩) 20 (2 * cap)) := by
        have e1 : optN (some (Value.int .i64 20)) len = some 20 := by simp [optN, isNat]
        have e2 : optN none 0 = some 0 := rfl
        unfold slc
        rw [e2, bds]
        show ((optN (some (Value.int .i64 20)) len).bind _) = _
        rw [e1, bds, g3']
        show (if 1 = 1 ∧ 0 ≤ 20 then (if 2 * cap = 1 then _ else if 20 ≤ 2 * cap / 2 then some (Value.slice (some ⟨b, 0 + 0, some 0⟩) (20 - 0) (2 * (2 * cap / 2 - 0))) else none) else none) = _
        rw [if_pos ⟨rfl, Nat.zero_le _⟩, if_neg (by omega), if_pos (by omega), show 2 * (2 * cap / 2 - 0) = 2 * cap by omega]
      refine ⟨.slice (some ⟨b, 0, some 0⟩) 20 (2 * cap), ks, ?_, IsR.pers (.inr ⟨b, 2 * cap, rows, true, by rw [← hks, List.length_take, show min 20 rows.length = 20 by omega], g3, by rw [← hks, List.length_take, show min 20 rows.length = 20 by omega]⟩) f, by omega⟩
      simp only [leapfroglaw03x_fewKinds.r, leapfroglaw03x_fewKinds.t, sy, reduceIte, Nat.reduceAdd, Nat.reduceLeDiff, Nat.reduceLT, Nat.reduceEqDiff, Int.reduceEq, Int.reduceLT, Int.reduceLE, Int.reduceNe, ly, c', hs]
    · obtain ⟨ks, hks⟩ := rows_kr (rows := rows.take len) fun r hr => g5 r (List.mem_of_mem_take hr)
      have hlen : ks.length = len := by
        have := congrArg List.length hks
        simp [kr] at this; omega
      have c' : ¬ ((20 : Int) < (len : Int)) := by omega
      refine ⟨.slice (some ⟨b, 0, some 0⟩) len (2 * cap), ks, ?_, IsR.pers (.inr ⟨b, 2 * cap, rows, true, by rw [← hks, List.length_take, show min len rows.length = len by omega], g3, by rw [← hks, List.length_take, show min len rows.length = len by omega]⟩) f, by omega⟩
      simp only [leapfroglaw03x_fewKinds.r, leapfroglaw03x_fewKinds.t, sy, reduceIte, Nat.reduceAdd, Nat.reduceLeDiff, Nat.reduceLT, Nat.reduceEqDiff, Int.reduceEq, Int.reduceLT, Int.reduceLE, Int.reduceNe, ly, c']
theorem firstL_len {bs : List Int} : ∀ {ks : List Int} {p q : Nat} {gs hs : List FB}, firstL bs ks p gs = .ok hs q → hs.length = gs.length + ks.length
  | [], p, q, gs, hs, h => by unfold firstL at h; cases h; rfl
  | k :: ks, p, q, gs, hs, h => by
    unfold firstL at h
    split at h
    · cases h
    · have := firstL_len h
      simp at this ⊢; omega
theorem firstP_len (bs ks : List Int) : (firstP bs ks).1.length ≤ ks.length := by
  unfold firstP
  split
  · cases h : firstL bs ks 0 [] with
    | ok gs p => have := firstL_len h; simp at this ⊢; omega
    | bad e p => simp
  · simp
theorem unpackP_len (bs ks : List Int) : (unpackP bs ks).1.length ≤ ks.length := by
  unfold unpackP
  split
  · simp
  · split
    · simp
    · exact firstP_len bs ks
end Go.Proofs.Ytmbfnpadhlfepaa
