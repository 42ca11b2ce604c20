/-
  All prefixes of a vector, in memory.
-/
import Derived.Test.YtogcfnhbacglfaaWorA
import Derived.Test.YtogcfnhbacglfaaPrbH
set_option linter.unusedSimpArgs false
set_option linter.unusedVariables false
set_option maxRecDepth 100000
set_option maxHeartbeats 2000000
namespace Go.Proofs.Ytogcfnhbacglfaa
open Go.Sim Go.Sim.Bt
attribute [local congr] bdc cndc itec gdc gdSc gdUc

/-- All prefixes of a vector. -/
def pre (n b : Nat) : List (Int × Int) := (List.range (n + 1)).map fun i : Nat => ((i : Int), ((b / 2 ^ (n - i) : Nat) : Int))
theorem pre_length (n b : Nat) : (pre n b).length = n + 1 := by simp [pre]
theorem pre_get {n b i : Nat} (h : i ≤ n) : (pre n b)[i]? = some ((i : Int), ((b / 2 ^ (n - i) : Nat) : Int)) := by
  simp [pre, List.getElem?_range (show i < n + 1 by omega)]
def rowsP (l : List (Int × Int)) : List (List Value) := l.map fun p => [Value.int .i64 p.1, .int .u64 p.2]
theorem rowsP_length (l : List (Int × Int)) : (rowsP l).length = l.length := by simp [rowsP]
theorem isI_part {s : St} {c n b i e : Nat} {ro : Bool} (hg : s.get c = some (.row 1 (rowsI (bl n b)) ro)) (hi : i ≤ n) : IsI s (.slice (some ⟨c, 0, some 0⟩) i e) ((bl n b).take i) :=
  .inr ⟨c, 0, e, _, ro, by rw [List.length_take, bl_length]; congr 1; omega, hg, fun j d hj => by
    rw [List.getElem?_take] at hj
    split at hj
    · rw [Nat.zero_add]; exact rowsI_get hj
    · cases hj⟩
theorem rpre_l6 {s : St} (hf : Fresh s) {c n b : Nat} (hn : n ≤ 32) (hb : b < 2 ^ n) (hg : s.get c = some (.row 1 (rowsI (bl n b)) false)) :
    ∃ u s', More s s' ∧ IsR s' 2 u ((pre n b).map V2) ∧ iter (leapfrogref01x_Prefixes.l6 std) BIG [Value.slice none 0 0, .slice (some ⟨c, 0, some 0⟩) n (2 * n), Value.int .i64 ((0 : Nat) : Int)] s = some (0, [u], s') := by
  refine iter_rel (fun d xs s' => More s s' ∧ ∃ j u, j + d = n + 1 ∧ Own s.n s' 2 u (rowsP ((pre n b).take j)) ∧ xs = [u, .slice (some ⟨c, 0, some 0⟩) n (2 * n), Value.int .i64 (j : Int)])
    (fun r : Option Cut => ∃ u s', More s s' ∧ IsR s' 2 u ((pre n b).map V2) ∧ r = some (0, [u], s')) ?_ BIG (n + 1) _ s (by unfold BIG; omega) ⟨.refl s, 0, _, by omega, .inl ⟨rfl, rfl⟩, rfl⟩
  rintro d xs s' rec ⟨hm', j, u, hj, ho, rfl⟩ ih
  cases d with
  | zero =>
    have e1 : ¬ ((j : Int) ≤ n) := by omega
    rw [List.take_of_length_le (by rw [pre_length]; omega)] at ho
    refine ⟨u, s', hm', ?_, by simp only [leapfrogref01x_Prefixes.l6, sy, reduceIte, Nat.reduceAdd, Nat.reduceLeDiff, Nat.reduceLT, Nat.reduceEqDiff, Int.reduceEq, Int.reduceLT, Int.reduceLE, Int.reduceNe, ly, e1]⟩
    rcases ho with ⟨rfl, h0⟩ | ⟨q, hq, rfl, hg⟩
    · exact .inl ⟨rfl, h0⟩
    · exact .inr ⟨q, 1, _, _, rfl, hg, List.take_length⟩
  | succ d =>
    have e1 : (j : Int) ≤ n := by omega
    have hjn : j ≤ n := by omega
    have e5 : IntKind.i64.wrap ((j : Int) + 1) = ((j + 1 : Nat) : Int) := by rw [wrap64 (by omega) (by omega)]; omega
    have hg' := hm'.get hf hg
    have sl := slc_lo (i := 0) hg' hjn (Nat.le_refl n)
    have of := of_r (isI_part (e := 2 * n) hg' hjn) (fun d hd => bl_lt (List.mem_of_mem_take hd)) (by rw [List.length_take, bl_length]; omega)
    rw [take_bl hjn, bl_length, ofBits_bl (div_lt_pow hb hjn)] at of
    have hx := @pre_get n b j hjn
    have ho' : Own s.n (s'.new (.row 2 [[.int .i64 (j : Int), .int .u64 ((b / 2 ^ (n - j) : Nat) : Int)]] false)) 2 u (rowsP ((pre n b).take j)) := by
      rcases ho with ⟨rfl, h0⟩ | ⟨q, hq, rfl, hg⟩
      · exact .inl ⟨rfl, h0⟩
      · exact .inr ⟨q, hq, rfl, by rw [get_new_ne (by have := (hm'.fresh hf).lt hg; omega)]; exact hg⟩
    obtain ⟨u', s2, g1, g2, g3, _⟩ := ho'.app (by_ := 16) (news := [[.int .i64 (j : Int), .int .u64 ((b / 2 ^ (n - j) : Nat) : Int)]]) (x := .slice (some ⟨s'.n, 0, some 0⟩) 1 2) (hm'.trans .new) rfl rowsOf_one (by simp [rowsP_length]; omega) (by simp [rowsP_length]; omega)
    have e8 : rowsP ((pre n b).take j) ++ [[.int .i64 (j : Int), .int .u64 ((b / 2 ^ (n - j) : Nat) : Int)]] = rowsP ((pre n b).take (j + 1)) := by
      rw [List.take_add_one, hx]; simp [rowsP]
    rw [e8] at g3
    simp only [leapfrogref01x_Prefixes.l6, sy, reduceIte, Nat.reduceAdd, Nat.reduceLeDiff, Nat.reduceLT, Nat.reduceEqDiff, Int.reduceEq, Int.reduceLT, Int.reduceLE, Int.reduceNe, ly, e1, sl, of, als_eq, g1, e5, Nat.zero_lt_succ, Nat.reduceMul]
    exact ih d _ _ (by omega) ⟨g2, j + 1, u', by omega, g3, rfl⟩
theorem rPrefixes_ok {s : St} (hf : Fresh s) {n b : Nat} (hn : n ≤ 32) (hb : b < 2 ^ n) : ∃ u s', More s s' ∧ IsR s' 2 u ((pre n b).map V2) ∧ leapfrogref01x_Prefixes.v (VV n b) s = some (u, s') := by
  obtain ⟨u, s', m, i, e⟩ := rpre_l6 (s := s.new (.row 1 (rowsI (bl n b)) false)) hf.new hn hb get_new_same
  rw [show ((0 : Nat) : Int) = 0 from rfl] at e
  exact ⟨u, s', More.new.trans m, i, by simp only [leapfrogref01x_Prefixes.v, leapfrogref01x_Prefixes.t, sy, reduceIte, Nat.reduceAdd, Nat.reduceLeDiff, Nat.reduceLT, Nat.reduceEqDiff, Int.reduceEq, Int.reduceLT, Int.reduceLE, Int.reduceNe, ly, rright_ok s hn hb, bits_v s hn hb, e]⟩
end Go.Proofs.Ytogcfnhbacglfaa
