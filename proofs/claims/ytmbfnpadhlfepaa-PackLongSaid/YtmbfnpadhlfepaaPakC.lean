/-
  A writer: a row of one cell that holds a slice of bytes, all its own.
-/
import Derived.Test.YtmbfnpadhlfepaaPakB
import Derived.Test.YtmbfnpadhlfepaaMachV
set_option linter.unusedSimpArgs false
set_option linter.unusedVariables false
set_option maxRecDepth 100000
set_option maxHeartbeats 4000000
namespace Go.Proofs.Ytmbfnpadhlfepaa
open Go.Sim Go.Sim.Bt
attribute [local congr] bdc cndc itec gdc gdSc gdUc

def wpt (b : Nat) : Value := .pointer (some ⟨b, 0, some 0⟩)
def u8 (y : Int) : Value := .int .u8 y
/-- Bytes as rows. -/
def br (l : List Int) : List (List Value) := l.map fun y => [u8 y]
theorem br_length (l : List Int) : (br l).length = l.length := by simp [br]
theorem br_append (l m : List Int) : br (l ++ m) = br l ++ br m := by simp [br]

/-- The writer at row `b`, made ahead of all that it writes (whose rows are `n0` and above). -/
structure WrAt (b n0 : Nat) (s : St) (l : List Int) : Prop where
  fr : Fresh s
  lt : b < n0
  le : n0 ≤ s.n
  at_ : ∃ v, s.get b = some (.row 1 [[v]] false) ∧ Ful n0 s 1 v (br l)

/-- What a writer's step turns: the writer, and rows at `n0` and above. -/
structure WSt (b n0 : Nat) (s s' : St) : Prop where
  n : s.n ≤ s'.n
  keep : ∀ x, x < n0 → x ≠ b → s'.get x = s.get x

theorem WSt.refl (b n0 : Nat) (s : St) : WSt b n0 s s := ⟨Nat.le_refl _, fun _ _ _ => rfl⟩
theorem WSt.trans {b n0 : Nat} {s s' s'' : St} (h : WSt b n0 s s') (k : WSt b n0 s' s'') : WSt b n0 s s'' := ⟨Nat.le_trans h.n k.n, fun x h1 h2 => (k.keep x h1 h2).trans (h.keep x h1 h2)⟩

/-- One byte more. -/
theorem wr_step {b n0 : Nat} {s : St} {l : List Int} (h : WrAt b n0 s l) (hl : l.length + 1 ≤ 140737488355328) : ∃ v, ldc s (wpt b) = some v ∧ ∀ y : Int, ∃ v' s' s'',
    app (s.new (.row 1 [[u8 y]] false)) 1 1 v (.slice (some ⟨s.n, 0, some 0⟩) 1 2) = some (v', s') ∧ stv s' 1 (wpt b) v' = some s'' ∧ WrAt b n0 s'' (l ++ [y]) ∧ WSt b n0 s s'' := by
  obtain ⟨v, hg, hv⟩ := h.at_
  refine ⟨v, by rw [wpt, ldc_row hg]; rfl, fun y => ?_⟩
  have m : More ⟨s.h, n0⟩ s := ⟨h.le, fun _ _ => rfl, fun _ => h.fr⟩
  obtain ⟨v', s', h1, h2, h3, h4, h5⟩ := push (s0 := ⟨s.h, n0⟩) h.fr hv m (by_ := 1) [u8 y] (by rw [br_length]; omega) (by rw [br_length]; omega)
  have hg' : s'.get b = some (.row 1 [[v]] false) := (h2.old b h.lt).trans hg
  have hbx : bx v' = some [v'] := h3.isR.bx
  refine ⟨v', s', s'.put b (.row 1 [[v']] false), h1, ?_, ⟨h4.put, h.lt, h2.n, v', get_put_same hg', ?_⟩, ⟨?_, fun x hx hne => ?_⟩⟩
  · rw [wpt, stv_row hg', hbx]; rfl
  · rw [br_append]
    rcases h3 with ⟨e1, e2⟩ | ⟨c, e, e0, e1, e2, e3⟩
    · exact .inl ⟨e1, e2⟩
    · exact .inr ⟨c, e, e0, e1, by rw [get_put_ne (by have := h.lt; simp only at e0; omega)]; exact e2, e3⟩
  · exact h5.1
  · rw [get_put_ne hne]
    exact h2.old x hx
end Go.Proofs.Ytmbfnpadhlfepaa
