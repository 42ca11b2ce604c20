/-
  ProbeMany, over abstract values.
-/
import Derived.Test.YtogcfnhbacglfaaPrbH
set_option linter.unusedSimpArgs false
set_option linter.unusedVariables false
set_option maxRecDepth 100000
set_option maxHeartbeats 4000000
namespace Go.Proofs.Ytogcfnhbacglfaa
open Go.Sim Go.Sim.Bt
attribute [local congr] bdc cndc itec gdc gdSc gdUc
namespace ProbeMany

theorem awake_r (s : St) : leapfroglaw19x_awakeC.r s = some (.bool true) := rfl
theorem mks_2 (n : Nat) (hn : n ≤ 100000) (s : St) : mks s 2 16 [.int .i64 0, .int .u64 0] (.int .i64 (n : Int)) (.int .i64 (n : Int)) = some (.slice (some ⟨s.n, 0, some 0⟩) n (2 * n), s.new (.row 2 (List.replicate n [.int .i64 0, .int .u64 0]) false)) := by
  unfold mks
  simp only
  rw [if_pos ⟨by omega, by omega, by omega, by omega⟩, Int.toNat_natCast, als_eq, List.length_replicate]
theorem head_r (s : St) : leapfrogref12x_Head.r (.int .i64 0) s = some (.agg ⟨[.int .i64 0, .int .i64 1, .int .u64 0, .int .i64 0, .int .u64 0]⟩) := by
  simp only [leapfrogref12x_Head.r, leapfrogref12x_Head.t, sy, reduceIte, Nat.reduceAdd, Nat.reduceLeDiff, Nat.reduceLT, Nat.reduceEqDiff, Int.reduceEq, Int.reduceLT, Int.reduceLE, Int.reduceNe, ly]
theorem law (s : St) (us : List Value) (ha : AllRo s) (hf : ∀ b, s.n ≤ b → s.get b = none) (h : Args s [(false, [.i .u16])] us) :
    ∃ s', leapfroglaw19x_ProbeMany.w us s = some (.bool true, s') := by
  unfold Args Args Arg Leaf.Are Leaf.Are Leaf.Is at h
  obtain ⟨v, _, rfl, ⟨_, _, h1, ⟨n, rfl, hn⟩, rfl⟩, rfl⟩ := h
  cases h1
  have hn : 0 ≤ n ∧ n ≤ 65535 := by
    simp [Lit.wf, IntKind.min, IntKind.max, IntKind.signed, IntKind.bits] at hn
    omega
  show ∃ s', leapfroglaw19x_ProbeMany.v (.int .u16 n) s = some (.bool true, s')
  have cv : cvi .i64 (.int .u16 n) = some (.int .i64 n) := by rw [cvi_int, wrap64 (by omega) (by omega)]
  obtain ⟨k, hk⟩ : ∃ k : Nat, n.tmod 2048 = (k : Int) := ⟨(n.tmod 2048).toNat, by rw [Int.toNat_of_nonneg (Int.tmod_nonneg _ hn.1)]⟩
  have hk2 : k < 2048 := by
    have := Int.tmod_lt_of_pos n (b := 2048) (by omega)
    omega
  have rm : bin .rem (.int .i64 n) (.int .i64 2048) = some (.int .i64 (k : Int)) := by rw [bin_rem (by omega), hk]
  have mk := mks_2 k (by omega) s
  have hh := head_r s
  have a0 := awake_r s
  have hm : ((List.replicate k ((0 : Int), (0 : Int))).map V2) = List.replicate k [.int .i64 0, .int .u64 0] := by rw [List.map_replicate]
  have hr : IsR (s.new (.row 2 (List.replicate k [.int .i64 0, .int .u64 0]) false)) 2 (.slice (some ⟨s.n, 0, some 0⟩) k (2 * k)) ((List.replicate k ((0 : Int), (0 : Int))).map V2) := by
    rw [hm]
    exact .inr ⟨s.n, 2 * k, _, false, by rw [List.length_replicate], get_new_same, by rw [List.length_replicate, List.take_of_length_le (by rw [List.length_replicate]; omega)]⟩
  have f1 : Fresh (s.new (.row 2 (List.replicate k [.int .i64 0, .int .u64 0]) false)) := Fresh.new hf
  have nw := new_v (c := ⟨⟨0, 1, 0, 0, 0⟩, List.replicate k (0, 0)⟩) f1 hr (fun p hp => by rw [List.eq_of_mem_replicate hp]; omega) (by show (0 : Int) ≤ 0; omega) (by show (List.replicate k _).length ≤ _; rw [List.length_replicate]; omega)
  generalize s.new (.row 2 (List.replicate k [.int .i64 0, .int .u64 0]) false) = s1 at *
  have okv : okV 0 0 := ⟨0, 0, rfl, rfl, by omega, by omega⟩
  by_cases c : k ≤ 1024
  · have ok : okP ⟨⟨0, 1, 0, 0, 0⟩, List.replicate k (0, 0)⟩ := ⟨.inr ⟨.inl rfl, rfl⟩, okv, by show (List.replicate k _).length ≤ _; rw [List.length_replicate]; exact c, fun p hp => by rw [List.eq_of_mem_replicate hp]; exact okv⟩
    obtain ⟨U, s2, n1, n2, n3, n4, n5⟩ := nw.1 ok
    have e1 : (k : Int) ≤ 1024 := by omega
    have q0 : eqb [3] false true (PU U) (.pointer none) = some (.bool true) := rfl
    exact ⟨s2, by simp only [leapfroglaw19x_ProbeMany.v, leapfroglaw19x_ProbeMany.t, sy, reduceIte, Nat.reduceAdd, Nat.reduceLeDiff, Nat.reduceLT, Nat.reduceEqDiff, Int.reduceEq, Int.reduceLT, Int.reduceLE, Int.reduceNe, ly, a0, cv, rm, mk, hh, n1, e1, q0]⟩
  · have ok : ¬ okP ⟨⟨0, 1, 0, 0, 0⟩, List.replicate k (0, 0)⟩ := fun h => c (by have := h.2.2.1; rwa [List.length_replicate] at this)
    obtain ⟨s2, n1, n3, n4⟩ := nw.2 ok
    have e1 : ¬ (k : Int) ≤ 1024 := by omega
    have q0 : eqb [3] false true (.pointer none) (.pointer none) = some (.bool false) := rfl
    exact ⟨s2, by simp only [leapfroglaw19x_ProbeMany.v, leapfroglaw19x_ProbeMany.t, sy, reduceIte, Nat.reduceAdd, Nat.reduceLeDiff, Nat.reduceLT, Nat.reduceEqDiff, Int.reduceEq, Int.reduceLT, Int.reduceLE, Int.reduceNe, ly, a0, cv, rm, mk, hh, n1, e1, q0]⟩
end ProbeMany
end Go.Proofs.Ytogcfnhbacglfaa
