/-
  Values as rows of bytes; two of the same bytes; steps that bear values.
-/
import Derived.Test.YteafgjpbfhjbjaaGreatMachE
set_option linter.unusedSimpArgs false
set_option linter.unusedVariables false
set_option maxRecDepth 100000
set_option maxHeartbeats 2000000
namespace Go.Proofs.YteafgjpbfhjbjaaGreat
open Go.Sim Go.Sim.Bt
attribute [local congr] bdc cndc itec gdc gdSc gdUc
structure Byt (s : St) (v : Value) (l : List (List Value)) : Prop where
  sl : ∃ a n c, v = .slice a n c
  len : lenV v = some l.length
  rows : rowsOf s 1 l.length v = some l
  ok : ∃ bs, bytesOf l = some bs
theorem Byt.same {s : St} {v : Value} {l : List (List Value)} (h : Byt s v l) : sameV v v = true := by
  obtain ⟨a, n, c, rfl⟩ := h.sl
  rcases a with _ | ⟨b, i, j⟩ <;> simp [sameV]
theorem rowsOf_stp {ks : List Nat} {s s' : St} {n : Nat} {v : Value} {l : List (List Value)} (hv : ∃ a n c, v = .slice a n c) (h : rowsOf s 1 n v = some l) (k : StpK ks s s') (hn : 1 ∉ ks) : rowsOf s' 1 n v = some l := by
  obtain ⟨a, m, c, rfl⟩ := hv
  unfold rowsOf at h ⊢
  split at h
  · split at h
    · rename_i _ sz' rows ro hg
      split at h
      · rename_i hc
        have := hc.1
        subst this
        rw [k.row hg hn]
        simp only []
        rw [if_pos ⟨trivial, hc.2⟩]
        exact h
      · cases h
    · cases h
  · exact h
  · rename_i e; cases e
  · cases h
theorem Byt.stp {ks : List Nat} {s s' : St} {v : Value} {l : List (List Value)} (h : Byt s v l) (k : StpK ks s s') (hn : 1 ∉ ks) : Byt s' v l :=
  ⟨h.sl, h.len, rowsOf_stp h.sl h.rows k hn, h.ok⟩
def SameB (s : St) (v w : Value) : Prop := ∃ l, Byt s v l ∧ Byt s w l
theorem SameB.stp {ks : List Nat} {s s' : St} {v w : Value} (h : SameB s v w) (k : StpK ks s s') (hn : 1 ∉ ks) : SameB s' v w := by
  obtain ⟨l, h1, h2⟩ := h
  exact ⟨l, h1.stp k hn, h2.stp k hn⟩
structure RV where
  e : Int
  key : Int
  v : Value
  l : Rf
  r : Rf
  found : Bool
end Go.Proofs.YteafgjpbfhjbjaaGreat
