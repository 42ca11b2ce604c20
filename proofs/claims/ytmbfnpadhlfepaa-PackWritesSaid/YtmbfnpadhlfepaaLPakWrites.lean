/-
  PackWrites, over abstract values.
-/
import Derived.Test.YtmbfnpadhlfepaaPakM
set_option linter.unusedSimpArgs false
set_option linter.unusedVariables false
set_option maxRecDepth 100000
set_option maxHeartbeats 4000000
namespace Go.Proofs.Ytmbfnpadhlfepaa
open Go.Sim Go.Sim.Bt
attribute [local congr] bdc cndc itec gdc gdSc gdUc
namespace PackWrites

theorem law (s : St) (us : List Value) (ha : AllRo s) (hf : ∀ b, s.n ≤ b → s.get b = none) (h : Args s [(false, [.sl [.i .i64, .i .u64, .i .i64, .b, .sl [.i .u8], .i .i64, .i .u64, .i .i64, .i .u64, .i .i64, .i .i64, .i .u64, .i .i64, .i .u64]]), (true, [.i .i64, .i .u64, .i .i64, .b, .sl [.i .u8], .i .i64, .i .u64, .i .i64, .i .u64, .i .i64, .i .i64, .i .u64, .i .i64, .i .u64]), (true, [.i .i64, .i .u64, .i .i64, .b, .sl [.i .u8], .i .i64, .i .u64, .i .i64, .i .u64, .i .i64, .i .i64, .i .u64, .i .i64, .i .u64])] us) : ∃ s', leapfroglaw03x_PackWrites.w us s = some (.bool true, s') := by
  unfold Args Args Args Args Arg at h
  obtain ⟨a0, _, rfl, ha0, a1, _, rfl, ⟨c1, rfl, hc1⟩, a2, _, rfl, ⟨c2, rfl, hc2⟩, rfl⟩ := h
  obtain ⟨f, rfl, x1, x2⟩ := field_arg hc1
  obtain ⟨g, rfl, y1, y2⟩ := field_arg hc2
  unfold Leaf.Are at ha0
  obtain ⟨_, _, e0, hl0, e1⟩ := ha0
  unfold Leaf.Are at e1
  subst e1
  simp only [List.cons.injEq, and_true] at e0
  subst e0
  obtain ⟨fs, hfa⟩ := fields_arg hl0
  have hF : Fresh s := hf
  obtain ⟨v, s1, gs, g1, g2, g3, g4, g5, _⟩ := few_v hF hfa
  obtain ⟨w1, s2, p1, p2, p3, p4⟩ := pack_v g5 (Nat.le_refl _) (by omega) g3
  have l2 := g5.to p2.old
  have n2 := p2.n
  obtain ⟨w2, s3, q1, q2, q3, q4⟩ := rpack_v l2 (by omega) (by omega) p4
  have l3 := l2.to (fun x hx => q2.old x (by omega))
  have n3 := q2.n
  obtain ⟨s4, r1, r2, r3⟩ := size_v l3 (by omega) (by omega) q4
  have l4 := l3.to (fun x hx => r2.old x (by omega))
  have n4 := r2.n
  obtain ⟨s5, t1, t2, t3⟩ := rsize_v l4 (by omega) (by omega) r3
  have z1 := ful_b2s (((p3.more q2 p4).more r2 q4).more t2 r3)
  have z2 := ful_b2s ((q3.more r2 q4).more t2 r3)
  have m5 : More s s5 := (((g2.trans p2).trans q2).trans r2).trans t2
  obtain ⟨lx, bx1, _⟩ := val_br (x2.more hF m5)
  obtain ⟨ly, by1, _⟩ := val_br (y2.more hF m5)
  have d1 := pcheck x1 bx1
  have d2 := rcheck x1 bx1
  have d3 := psame_r f g s5 bx1.bx by1.bx (byt_b2s bx1) (byt_b2s by1)
  have d4 := rsame_r f g s5 bx1.bx by1.bx (byt_b2s bx1) (byt_b2s by1)
  have d5 := psame_r f f s5 bx1.bx bx1.bx (byt_b2s bx1) (byt_b2s bx1)
  rw [@decide_eq_true _ (Classical.propDecidable _) (show sameP f f ⟨⟨bts lx⟩⟩ ⟨⟨bts lx⟩⟩ by unfold sameP; simp)] at d5
  have al : leapfroglaw03x_aliveC.r s5 = some (.bool true) := rfl
  have hl1 : ∀ f : Fd, lal f.cs 0 14 = some f.v := fun f => rfl
  have hbx : ∀ f : Fd, bx (.agg ⟨f.cs⟩) = some f.cs := fun f => rfl
  refine ⟨s5, ?_⟩
  show leapfroglaw03x_PackWrites.v _ _ _ s = _
  have eq2 : ∀ (b : ByteArray), eqb [2] false false (.string b) (.string b) = some (.bool true) := fun b => by rw [eqb2]; simp
  have eqi : ∀ (a : Int), eqb [1] false false (.int .i64 a) (.int .i64 a) = some (.bool true) := fun b => by rw [eqb1]; simp
  have eqB : ∀ (a : Bool), eqb [0] false false (.bool a) (.bool a) = some (.bool true) := fun b => by rw [eqb0]; simp
  simp only [leapfroglaw03x_PackWrites.v, leapfroglaw03x_PackWrites.t, leapfroglaw03x_PackWrites.t.p1, std_bd, std_gd, hbx, hl1, g1, p1, q1, r1, t1, xtr_eq, List.getElem?_cons_zero, List.getElem?_cons_succ, bds, z1, z2, eq2, eqi, eqB, gdtt, pikt, d1, d2, d3, d4, d5, al]
end PackWrites
end Go.Proofs.Ytmbfnpadhlfepaa
