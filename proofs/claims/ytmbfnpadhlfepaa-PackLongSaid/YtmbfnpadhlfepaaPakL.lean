/-
  Fields that are handed in; few of them.
-/
import Derived.Test.YtmbfnpadhlfepaaPakK
set_option linter.unusedSimpArgs false
set_option linter.unusedVariables false
set_option maxRecDepth 100000
set_option maxHeartbeats 4000000
namespace Go.Proofs.Ytmbfnpadhlfepaa
open Go.Sim Go.Sim.Bt
attribute [local congr] bdc cndc itec gdc gdSc gdUc

theorem IsR.pers {sz : Nat} {s : St} {v : Value} {rows : List (List Value)} (h : IsR s sz v rows) (f : Fresh s) : Pers s.n s fun s => IsR s sz v rows :=
  fun s' k => h.keep fun b all ro hg => (k b (f.lt hg)).trans hg
theorem Byt.pers {s : St} {v : Value} {l : List (List Value)} (h : Byt s v l) (f : Fresh s) : Pers s.n s fun s => Byt s v l := by
  intro s' k
  refine ⟨h.sl, h.len, ?_, h.ok⟩
  obtain ⟨a, n, c, rfl⟩ := h.sl
  have hr := h.rows
  unfold rowsOf at hr ⊢
  split at hr
  · split at hr
    · rename_i hg
      rw [k _ (f.lt hg), hg]; exact hr
    · cases hr
  · exact hr
  · rename_i e; cases e
  · cases hr
def okY (l : List Int) : Prop := ∀ y ∈ l, 0 ≤ y ∧ y < 256
theorem are_br {s : St} : ∀ {rows : List (List Value)}, (∀ r ∈ rows, Leaf.Are s [.i .u8] r) → ∃ l, rows = br l ∧ okY l
  | [], _ => ⟨[], rfl, fun _ h => by cases h⟩
  | r :: rows, h => by
    have h1 := h r (by simp)
    unfold Leaf.Are Leaf.Are Leaf.Is at h1
    obtain ⟨_, _, rfl, ⟨n, rfl, hn⟩, rfl⟩ := h1
    obtain ⟨b1, b2⟩ := wf_u8 hn
    obtain ⟨l, rfl, hl⟩ := are_br (rows := rows) fun x hx => h x (by simp [hx])
    refine ⟨n :: l, rfl, fun y hy => ?_⟩
    rcases List.mem_cons.1 hy with rfl | hy
    · omega
    · exact hl y hy
theorem val_br {s : St} {v : Value} (h : ValIs s v) : ∃ l, Byt s v (br l) ∧ okY l := by
  have h' := h
  unfold ValIs Leaf.Is at h'
  obtain ⟨rows, hb⟩ := byt_val h
  suffices hs : ∀ r ∈ rows, Leaf.Are s [.i .u8] r by
    obtain ⟨l, rfl, hl⟩ := are_br hs
    exact ⟨l, hb, hl⟩
  have hr := hb.rows
  rcases h' with rfl | ⟨b, len, cap, all, rfl, h1, h2, h3, h4, h5⟩
  · have := hb.len
    simp only [lenV, Option.some.injEq] at this
    intro r hr
    rw [List.eq_nil_of_length_eq_zero this.symm] at hr
    cases hr
  · have h3 : s.get b = some (.row 1 all true) := h3
    have hl := hb.len
    simp only [lenV, Option.some.injEq] at hl
    rw [rowsOf_row (i := 0) h3 (by omega) (by omega)] at hr
    simp only [Option.some.injEq, List.drop_zero] at hr
    intro r hm
    rw [← hr] at hm
    exact h5 r (List.mem_of_mem_take hm)
theorem val_cut {s : St} {v : Value} (h : ValIs s v) {len : Int} (hl : lenL v = some (.int .i64 len)) {k : Nat} (hk : (k : Int) < len) : ∃ w l, slc s 1 v none (some (.int .i64 (k : Int))) none = some w ∧ Byt s w (br l) ∧ l.length = k ∧ okY l := by
  obtain ⟨w, rows, h1, h2, h3⟩ := byt_cut h hl hk
  suffices hs : ∀ r ∈ rows, Leaf.Are s [.i .u8] r by
    obtain ⟨l, rfl, hl⟩ := are_br hs
    exact ⟨w, l, h1, h2, by rwa [br_length] at h3, hl⟩
  have hr := h2.rows
  unfold ValIs Leaf.Is at h
  rcases h with rfl | ⟨b, n, cap, all, rfl, g1, g2, g3, g4, g5⟩
  · simp only [lenL, Option.some.injEq, Value.int.injEq] at hl
    have := hl.2; omega
  · have g3 : s.get b = some (.row 1 all true) := g3
    simp only [lenL, Option.some.injEq, Value.int.injEq] at hl
    have hkn : k < n := by have := hl.2; omega
    have ew : w = .slice (some ⟨b, 0, some 0⟩) k (2 * cap) := by
      have e1 : optN (some (Value.int .i64 (k : Int))) n = some k := by simp [optN, isNat]
      have e2 : optN none 0 = some 0 := rfl
      have : slc s 1 (.slice (some ⟨b, 0, some 0⟩) n (2 * cap)) none (some (.int .i64 (k : Int))) none = some (.slice (some ⟨b, 0, some 0⟩) k (2 * cap)) := by
        unfold slc
        rw [e2, bds]
        show ((optN (some (Value.int .i64 (k : Int))) n).bind _) = _
        rw [e1, bds, g3]
        show (if 1 = 1 ∧ 0 ≤ k then (if 2 * cap = 1 then _ else if k ≤ 2 * cap / 2 then some (Value.slice (some ⟨b, 0 + 0, some 0⟩) (k - 0) (2 * (2 * cap / 2 - 0))) else none) else none) = _
        rw [if_pos ⟨rfl, Nat.zero_le _⟩, if_neg (by omega), if_pos (by omega), show 2 * (2 * cap / 2 - 0) = 2 * cap by omega]
        rfl
      rw [this] at h1
      exact (Option.some.inj h1).symm
    subst ew
    rw [h3, rowsOf_row (i := 0) g3 (Nat.le_refl _) (by omega)] at hr
    simp only [Option.some.injEq, List.drop_zero] at hr
    intro r hm
    rw [← hr] at hm
    exact g5 r (List.mem_of_mem_take hm)
theorem ValIs.more {s s' : St} {v : Value} (h : ValIs s v) (f : Fresh s) (m : More s s') : ValIs s' v := by
  unfold ValIs Leaf.Is at h ⊢
  rcases h with h | ⟨b, n, cap, all, rfl, g1, g2, g3, g4, g5⟩
  · exact .inl h
  · refine .inr ⟨b, n, cap, all, rfl, g1, g2, m.get f g3, g4, fun r hr => ?_⟩
    have := g5 r hr
    unfold Leaf.Are Leaf.Are Leaf.Is at this ⊢
    exact this

theorem slc_more {s0 s : St} {v : Value} (h : ValIs s0 v) (f : Fresh s0) (m : More s0 s) {lo hi mx : Option Value} : slc s 1 v lo hi mx = slc s0 1 v lo hi mx := by
  unfold ValIs Leaf.Is at h
  rcases h with rfl | ⟨b, n, cap, all, rfl, g1, g2, g3, g4, g5⟩
  · rfl
  · unfold slc
    simp only [m.old b (f.lt g3)]
/-- What is handed in for a field. -/
theorem field_arg {s : St} {r : List Value} (h : Leaf.Are s [.i .i64, .i .u64, .i .i64, .b, .sl [.i .u8], .i .i64, .i .u64, .i .i64, .i .u64, .i .i64, .i .i64, .i .u64, .i .i64, .i .u64] r) : ∃ f : Fd, r = f.cs ∧ FdA f ∧ ValIs s f.b := by
  have e : ∀ v, Leaf.Is s (.sl [.i .u8]) v → ValIs s v := fun _ h => h
  obtain ⟨_, _, rfl, k1, _, _, rfl, k2, _, _, rfl, k3, _, _, rfl, k4, v, _, rfl, hv, _, _, rfl, k5, _, _, rfl, k6, _, _, rfl, k7, _, _, rfl, k8, _, _, rfl, k9, _, _, rfl, k10, _, _, rfl, k11, _, _, rfl, k12, _, _, rfl, k13, rfl⟩ := h
  simp only [Leaf.Is] at k1 k2 k3 k4 k5 k6 k7 k8 k9 k10 k11 k12 k13
  obtain ⟨a1, rfl, w1⟩ := k1
  obtain ⟨a2, rfl, w2⟩ := k2
  obtain ⟨a3, rfl, w3⟩ := k3
  obtain ⟨a4, rfl⟩ := k4
  obtain ⟨a5, rfl, w5⟩ := k5
  obtain ⟨a6, rfl, w6⟩ := k6
  obtain ⟨a7, rfl, w7⟩ := k7
  obtain ⟨a8, rfl, w8⟩ := k8
  obtain ⟨a9, rfl, w9⟩ := k9
  obtain ⟨a10, rfl, w10⟩ := k10
  obtain ⟨a11, rfl, w11⟩ := k11
  obtain ⟨a12, rfl, w12⟩ := k12
  obtain ⟨a13, rfl, w13⟩ := k13
  have q2 := wf_u64 w2
  have q3 := wf_i64 w3
  have q6 := wf_u64 w6
  have q8 := wf_u64 w8
  have q9 := wf_i64 w9
  have q11 := wf_u64 w11
  have q13 := wf_u64 w13
  exact ⟨⟨a1, a2, a3, a4, v, a5, a6, a7, a8, a9, a10, a11, a12, a13⟩, rfl, ⟨q2.1, by simp only; omega, q3.1, q3.2, q6.1, q8.1, by simp only; omega, q9.1, q9.2, q11.1, by simp only; omega, q13.1⟩, e _ hv⟩

/-- A slice of fields that is handed in. -/
structure FA (s : St) (v : Value) (fs : List Fd) : Prop where
  rows : IsR s 14 v (fs.map Fd.cs)
  els : ∀ f ∈ fs, FdA f ∧ ValIs s f.b
theorem fields_arg {s : St} {v : Value} (h : Leaf.Is s (.sl [.i .i64, .i .u64, .i .i64, .b, .sl [.i .u8], .i .i64, .i .u64, .i .i64, .i .u64, .i .i64, .i .i64, .i .u64, .i .i64, .i .u64]) v) : ∃ fs, FA s v fs := by
  unfold Leaf.Is at h
  rcases h with rfl | ⟨b, len, cap, rows, rfl, g1, g2, g3, g4, g5⟩
  · exact ⟨[], .inl ⟨rfl, rfl⟩, fun _ h => by cases h⟩
  · have : ∀ (l : List (List Value)), (∀ r ∈ l, Leaf.Are s [.i .i64, .i .u64, .i .i64, .b, .sl [.i .u8], .i .i64, .i .u64, .i .i64, .i .u64, .i .i64, .i .i64, .i .u64, .i .i64, .i .u64] r) → ∃ fs : List Fd, l = fs.map Fd.cs ∧ ∀ f ∈ fs, FdA f ∧ ValIs s f.b := by
      intro l
      induction l with
      | nil => intro _; exact ⟨[], rfl, fun _ h => by cases h⟩
      | cons r l ih =>
        intro hl
        obtain ⟨f, rfl, h1, h2⟩ := field_arg (hl r (by simp))
        obtain ⟨fs, rfl, h3⟩ := ih fun x hx => hl x (by simp [hx])
        refine ⟨f :: fs, rfl, fun x hx => ?_⟩
        rcases List.mem_cons.1 hx with rfl | hx
        · exact ⟨h1, h2⟩
        · exact h3 x hx
    obtain ⟨fs, h1, h2⟩ := this (rows.take len) fun r hr => g5 r (List.mem_of_mem_take hr)
    refine ⟨fs, .inr ⟨b, 2 * cap, rows, true, ?_, g3, ?_⟩, h2⟩
    · rw [← h1, List.length_take]
      have : min len rows.length = len := by omega
      rw [this]
    · rw [← h1, List.length_take]
      have : min len rows.length = len := by omega
      rw [this]

theorem fewloop {s0 : St} {a0 : Value} {fs : List Fd} (hf0 : Fresh s0) (h : FA s0 a0 fs) : ∀ (d j : Nat), j + d = 20 → ∀ {s : St} {v : Value} {gs : List FB}, Fresh s → More s0 s → gs.length = j → Ful s0.n s 14 v (gs.map fun p => p.1.cs) → (∀ p ∈ gs, FdA p.1 ∧ Byt s0 p.1.b (br p.2) ∧ okY p.2) →
    ∃ v' s', ∃ gs' : List FB, (∀ e, iter (leapfroglaw03x_few.l3 std) (e + d + 1) [a0, v, .int .i64 (j : Int)] s = some (0, [v'], s')) ∧ More s0 s' ∧ Fresh s' ∧ gs'.length ≤ 20 ∧ Ful s0.n s' 14 v' (gs'.map fun p => p.1.cs) ∧ ∀ p ∈ gs', FdA p.1 ∧ Byt s0 p.1.b (br p.2) ∧ okY p.2 := by
  have hlen := h.rows.len
  rw [List.length_map] at hlen
  intro d
  induction d with
  | zero =>
    intro j hj s v gs hf hm hg hu he
    have : j = 20 := by omega
    subst this
    refine ⟨v, s, gs, fun e => ?_, hm, hf, by omega, hu, he⟩
    rw [iter_succ]
    rcases Classical.propComplete ((20 : Int) < (fs.length : Int)) with k | k
    · simp only [leapfroglaw03x_few.l3, sy, reduceIte, Nat.reduceAdd, Nat.reduceLeDiff, Nat.reduceLT, Nat.reduceEqDiff, Int.reduceEq, Int.reduceLT, Int.reduceLE, Int.reduceNe, ly, hlen, k, show ((20 : Nat) : Int) = 20 from rfl, Int.lt_irrefl]
    · simp only [leapfroglaw03x_few.l3, sy, reduceIte, Nat.reduceAdd, Nat.reduceLeDiff, Nat.reduceLT, Nat.reduceEqDiff, Int.reduceEq, Int.reduceLT, Int.reduceLE, Int.reduceNe, ly, hlen, k, show ((20 : Nat) : Int) = 20 from rfl, Int.lt_irrefl]
  | succ d ih =>
    intro j hj s v gs hf hm hg hu he
    by_cases hlt : j < fs.length
    · obtain ⟨f, hfj⟩ := get_some hlt
      obtain ⟨a1, a2⟩ := h.els f (List.mem_of_getElem? hfj)
      have hrow := h.rows.more hm hf0
      obtain ⟨b, all, ro, i1, i2, i3⟩ := hrow.at (j := j) (r := f.cs) (by rw [List.getElem?_map, hfj]; rfl)
      have i4 : lda s 14 (.pointer (some ⟨b, j, some 0⟩)) = some f.v := by rw [lda_row i2, i3]; rfl
      obtain ⟨l, b1, b2⟩ := val_br a2
      have b3 := b1.lenL
      rw [br_length] at b3
      have k1 : (j : Int) < (fs.length : Int) := by omega
      have k2 : (j : Int) < 20 := by omega
      have add0 : IntKind.i64.wrap ((j : Int) + 1) = ((j + 1 : Nat) : Int) := by
        rw [wrap64 (by omega) (by omega)]; omega
      -- the field as it goes on
      have key : ∃ f' l', FdA f' ∧ Byt s0 f'.b (br l') ∧ okY l' ∧ ∀ e, ∀ v1 s1, app (s.new (.row 14 [f'.cs] false)) 14 128 v (.slice (some ⟨s.n, 0, some 0⟩) 1 2) = some (v1, s1) →
          iter (leapfroglaw03x_few.l3 std) (e + 1) [a0, v, .int .i64 (j : Int)] s = iter (leapfroglaw03x_few.l3 std) e [a0, v1, .int .i64 ((j + 1 : Nat) : Int)] s1 := by
        by_cases c : 700 < l.length ∧ l.length ≤ 65536
        · obtain ⟨w, m, c1, c2, c3, c4⟩ := val_cut a2 b3 (k := 700) (by omega)
          have c1 : slc s 1 f.b none (some (.int .i64 ((700 : Nat) : Int))) none = some w := by rw [← c1]; exact slc_more a2 hf0 hm
          have hbx := c2.bx
          have hfb := b1.bx
          refine ⟨{ f with b := w }, m, ⟨a1.n0, a1.n1, a1.i0, a1.i1, a1.vb, a1.kn0, a1.kn1, a1.d0, a1.d1, a1.rn0, a1.rn1, a1.rb⟩, c2, c4, fun e v1 s1 happ => ?_⟩
          · rw [iter_succ]
            have q1 : (700 : Int) < (l.length : Int) := by omega
            have q2 : (l.length : Int) ≤ 65536 := by omega
            simp only [Fd.cs] at happ
            simp only [show ((700 : Nat) : Int) = 700 from rfl] at c1
            simp only [leapfroglaw03x_few.l3, leapfroglaw03x_few.l3.p1, sy, reduceIte, Nat.reduceAdd, Nat.reduceLeDiff, Nat.reduceLT, Nat.reduceEqDiff, Int.reduceEq, Int.reduceLT, Int.reduceLE, Int.reduceNe, ly, hlen, k1, k2, i1, i4, Fd.v, Fd.cs, b3, q1, q2, c1, hbx, als_eq, happ, add0]
        · refine ⟨f, l, a1, b1, b2, fun e v1 s1 happ => ?_⟩
          rw [iter_succ]
          simp only [Fd.cs] at happ
          rcases Classical.propComplete ((700 : Int) < (l.length : Int)) with q1 | q1
          · have q2 : ((l.length : Int) ≤ 65536) = False := eq_false (by have := of_eq_true q1; omega)
            simp only [leapfroglaw03x_few.l3, leapfroglaw03x_few.l3.p1, sy, reduceIte, Nat.reduceAdd, Nat.reduceLeDiff, Nat.reduceLT, Nat.reduceEqDiff, Int.reduceEq, Int.reduceLT, Int.reduceLE, Int.reduceNe, ly, hlen, k1, k2, i1, i4, Fd.v, Fd.cs, b3, q1, q2, als_eq, happ, add0]
          · simp only [leapfroglaw03x_few.l3, leapfroglaw03x_few.l3.p1, sy, reduceIte, Nat.reduceAdd, Nat.reduceLeDiff, Nat.reduceLT, Nat.reduceEqDiff, Int.reduceEq, Int.reduceLT, Int.reduceLE, Int.reduceNe, ly, hlen, k1, k2, i1, i4, Fd.v, Fd.cs, b3, q1, als_eq, happ, add0]
      obtain ⟨f', l', g1, g2, g3, g4⟩ := key
      obtain ⟨v1, s1, p1, p2, p3, p4, _⟩ := push hf hu hm (by_ := 128) f'.cs (by simp; omega) (by simp; omega)
      obtain ⟨v', s', gs', q1, q2⟩ := ih (j + 1) (by omega) (gs := gs ++ [(f', l')]) p4 p2 (by simp [hg]) (by simpa using p3) (by
        intro p hp
        rcases List.mem_append.1 hp with hp | hp
        · exact he p hp
        · cases List.mem_singleton.1 hp; exact ⟨g1, g2, g3⟩)
      refine ⟨v', s', gs', fun e => ?_, q2⟩
      rw [show e + (d + 1) + 1 = (e + d + 1) + 1 by omega, g4 _ _ _ p1]
      exact q1 e
    · refine ⟨v, s, gs, fun e => ?_, hm, hf, by omega, hu, he⟩
      have k : ¬ ((j : Int) < (fs.length : Int)) := by omega
      rw [iter_succ]
      simp only [leapfroglaw03x_few.l3, sy, reduceIte, Nat.reduceAdd, Nat.reduceLeDiff, Nat.reduceLT, Nat.reduceEqDiff, Int.reduceEq, Int.reduceLT, Int.reduceLE, Int.reduceNe, ly, hlen, k]
end Go.Proofs.Ytmbfnpadhlfepaa
