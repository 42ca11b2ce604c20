/-
  Few fields, and how many bytes fields have.
-/
import Derived.Test.YtmbfnpadhlfepaaPakL
set_option linter.unusedSimpArgs false
set_option linter.unusedVariables false
set_option maxRecDepth 100000
set_option maxHeartbeats 4000000
namespace Go.Proofs.Ytmbfnpadhlfepaa
open Go.Sim Go.Sim.Bt
attribute [local congr] bdc cndc itec gdc gdSc gdUc

theorem Pers.mono {n m : Nat} {s : St} {P : St → Prop} (h : Pers n s P) (hn : n ≤ m) : Pers m s P := fun s' k => h s' fun x hx => k x (by omega)
theorem few_v {s : St} {a0 : Value} {fs : List Fd} (hf : Fresh s) (h : FA s a0 fs) : ∃ v s', ∃ gs : List FB, leapfroglaw03x_few.v a0 s = some (v, s') ∧ More s s' ∧ Fresh s' ∧ gs.length ≤ 20 ∧ FL s'.n s' v gs ∧ ∀ p ∈ gs, okY p.2 := by
  obtain ⟨v, s', gs, h1, h2, h3, h4, h5, h6⟩ := fewloop hf h 20 0 rfl hf (.refl _) (gs := []) rfl (v := .slice none 0 0) (.inl ⟨rfl, rfl⟩) (fun p hp => by cases hp)
  refine ⟨v, s', gs, ?_, h2, h3, h4, ⟨h5.isR.pers h3, fun p hp => ⟨(h6 p hp).1, ?_⟩⟩, fun p hp => (h6 p hp).2.2⟩
  · have := h1 (BIG - 21)
    rw [show BIG - 21 + 20 + 1 = BIG from rfl] at this
    have this : iter (leapfroglaw03x_few.l3 std) BIG [a0, .slice none 0 0, .int .i64 0] s = _ := this
    unfold leapfroglaw03x_few.v leapfroglaw03x_few.t
    simp only [std_bd, std_it, this, bds, List.getD_cons_zero]
  · exact (((h6 p hp).2.1.pers hf).to h2.old).mono h2.n
theorem size_v {n : Nat} {s : St} {v : Value} {fs : List FB} (h : FL n s v fs) (hn : n ≤ s.n) (hb : fs.length ≤ 1000) (hf : Fresh s) : ∃ s', pack_Size.v v s = some (.tuple ⟨[.int .i64 ((outB fs).length : Nat), .int .i64 (outE fs)]⟩, s') ∧ More s s' ∧ Fresh s' := by
  obtain ⟨w, s', h1, h2, h3, h4⟩ := pack_v h hn hb hf
  refine ⟨s', ?_, h2, h4⟩
  have hl := h3.isR.len
  rw [br_length] at hl
  simp only [pack_Size.v, pack_Size.t, sy, reduceIte, Nat.reduceAdd, Nat.reduceLeDiff, Nat.reduceLT, Nat.reduceEqDiff, Int.reduceEq, Int.reduceLT, Int.reduceLE, Int.reduceNe, ly, h1, hl]
theorem rsize_v {n : Nat} {s : St} {v : Value} {fs : List FB} (h : FL n s v fs) (hn : n ≤ s.n) (hb : fs.length ≤ 1000) (hf : Fresh s) : ∃ s', leapfrogref03x_Size.v v s = some (.tuple ⟨[.int .i64 ((outB fs).length : Nat), .int .i64 (outE fs)]⟩, s') ∧ More s s' ∧ Fresh s' := by
  obtain ⟨w, s', h1, h2, h3, h4⟩ := rpack_v h hn hb hf
  refine ⟨s', ?_, h2, h4⟩
  have hl := h3.isR.len
  rw [br_length] at hl
  simp only [leapfrogref03x_Size.v, leapfrogref03x_Size.t, sy, reduceIte, Nat.reduceAdd, Nat.reduceLeDiff, Nat.reduceLT, Nat.reduceEqDiff, Int.reduceEq, Int.reduceLT, Int.reduceLE, Int.reduceNe, ly, h1, hl]
end Go.Proofs.Ytmbfnpadhlfepaa
