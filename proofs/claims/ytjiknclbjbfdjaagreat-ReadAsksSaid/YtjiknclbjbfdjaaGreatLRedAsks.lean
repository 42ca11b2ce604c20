/-
  ReadAsks, over abstract values.
-/
import Derived.Test.YtjiknclbjbfdjaaGreatRedD
import Derived.Test.YtjiknclbjbfdjaaGreatMachE
set_option linter.unusedSimpArgs false
set_option linter.unusedVariables false
set_option maxRecDepth 100000
set_option maxHeartbeats 2000000
namespace Go.Proofs.YtjiknclbjbfdjaaGreat
open Go.Sim Go.Sim.Bt
attribute [local congr] bdc cndc itec gdc gdSc gdUc
namespace ReadAsks

theorem alive_r (s : St) : leapfroglaw17x_aliveC.r s = some (.bool true) := rfl
structure Here (c : RC) (v : Value) (l : List OpA) (p qc N : Nat) (s : St) : Prop where
  ex : ∃ m ms b q, AtD c m s p N b q qc ms ∧ InvD m
  ho : IsO s v l
  fr : Fresh s
theorem step {c : RC} {v : Value} {l : List OpA} {p qc j : Nat} {s : St} (hC : okC c.sk) (hb : 0 ≤ c.st.bt) (h : Here c v l p qc j s) (hj : j < 100) {a : OpA} (ha : l[j]? = some a) (hval : ValIs E0 a.a.v ∨ True) (hbx : bx a.a.v = some [a.a.v]) (hsm : sameV a.a.v a.a.v = true) (rec : List Value → St → Option Cut) :
    ∃ s', leapfroglaw17x_ReadAsks.l6 std rec [v, P p, .int .i64 (j : Int)] s = rec [v, P p, .int .i64 ((j + 1 : Nat) : Int)] s' ∧ Here c v l p qc (j + 1) s' := by
  obtain ⟨m, ms, b, q, hA, hi⟩ := h.ex
  have n1 := next_d hA hi.at'
  have hjl : j < l.length := (List.getElem?_eq_some_iff.1 ha).1
  have e1 : (j : Int) < l.length := by omega
  have e2 : (j : Int) < 100 := by omega
  have e5 : IntKind.i64.wrap ((j : Int) + 1) = ((j + 1 : Nat) : Int) := by rw [wrap64 (by omega) (by omega)]; omega
  obtain ⟨b1, k1, rows1, ro1, a1, a2, a3⟩ := h.ho.at ha
  have hlen := h.ho.len
  have go : ∀ {k : Int} {t : Rf} {x : AskP} {r : RV}, nextD m ms = stepV k t x r r.v → ((k = 1) = False ∨ (x.k = 1) = True ∨ (x.k = 2) = True) → ∃ s', leapfroglaw17x_ReadAsks.l6 std rec [v, P p, .int .i64 (j : Int)] s = rec [v, P p, .int .i64 ((j + 1 : Nat) : Int)] s' ∧ Here c v l p qc (j + 1) s' := by
    intro k t x r hx hk
    rw [hx] at n1
    have fin : ∀ s', (a.wake = true → read_Read_Wake.v (P p) s = some (unit', s')) → (a.wake = false → read_Read_Tell.v (P p) (.agg ⟨a.a.cs⟩) s = some (unit', s')) → leapfroglaw17x_ReadAsks.l6 std rec [v, P p, .int .i64 (j : Int)] s = rec [v, P p, .int .i64 ((j + 1 : Nat) : Int)] s' := by
      intro s' hw ht
      have xx : x.k = 2 → (x.k = 1) = False := fun e => eq_false (by omega)
      cases hwk : a.wake with
      | true =>
        have hw := hw hwk
        rcases Classical.propComplete (k = 1) with k1' | k1'
        · rcases hk with hk | hk | hk
          · rw [k1'] at hk; simp at hk
          · simp only [leapfroglaw17x_ReadAsks.l6, leapfroglaw17x_ReadAsks.l6.p1, sy, reduceIte, Nat.reduceAdd, Nat.reduceLeDiff, Nat.reduceLT, Nat.reduceEqDiff, Int.reduceEq, Int.reduceLT, Int.reduceLE, Int.reduceNe, ly, hlen, e1, e2, n1, k1', hk, a1, ldc_row a2, a3, hwk, hw, e5]
          · simp only [leapfroglaw17x_ReadAsks.l6, leapfroglaw17x_ReadAsks.l6.p1, sy, reduceIte, Nat.reduceAdd, Nat.reduceLeDiff, Nat.reduceLT, Nat.reduceEqDiff, Int.reduceEq, Int.reduceLT, Int.reduceLE, Int.reduceNe, ly, hlen, e1, e2, n1, k1', xx (of_eq_true hk), hk, a1, ldc_row a2, a3, hwk, hw, e5]
        · simp only [leapfroglaw17x_ReadAsks.l6, leapfroglaw17x_ReadAsks.l6.p1, sy, reduceIte, Nat.reduceAdd, Nat.reduceLeDiff, Nat.reduceLT, Nat.reduceEqDiff, Int.reduceEq, Int.reduceLT, Int.reduceLE, Int.reduceNe, ly, hlen, e1, e2, n1, k1', a1, ldc_row a2, a3, hwk, hw, e5]
      | false =>
        have ht := ht hwk
        rcases Classical.propComplete (k = 1) with k1' | k1'
        · rcases hk with hk | hk | hk
          · rw [k1'] at hk; simp at hk
          · simp only [leapfroglaw17x_ReadAsks.l6, leapfroglaw17x_ReadAsks.l6.p1, sy, reduceIte, Nat.reduceAdd, Nat.reduceLeDiff, Nat.reduceLT, Nat.reduceEqDiff, Int.reduceEq, Int.reduceLT, Int.reduceLE, Int.reduceNe, ly, hlen, e1, e2, n1, k1', hk, a1, ldc_row a2, lda_row a2, a3, hwk, ht, e5]
          · simp only [leapfroglaw17x_ReadAsks.l6, leapfroglaw17x_ReadAsks.l6.p1, sy, reduceIte, Nat.reduceAdd, Nat.reduceLeDiff, Nat.reduceLT, Nat.reduceEqDiff, Int.reduceEq, Int.reduceLT, Int.reduceLE, Int.reduceNe, ly, hlen, e1, e2, n1, k1', xx (of_eq_true hk), hk, a1, ldc_row a2, lda_row a2, a3, hwk, ht, e5]
        · simp only [leapfroglaw17x_ReadAsks.l6, leapfroglaw17x_ReadAsks.l6.p1, sy, reduceIte, Nat.reduceAdd, Nat.reduceLeDiff, Nat.reduceLT, Nat.reduceEqDiff, Int.reduceEq, Int.reduceLT, Int.reduceLE, Int.reduceNe, ly, hlen, e1, e2, n1, k1', a1, ldc_row a2, lda_row a2, a3, hwk, ht, e5]
    cases hwk : a.wake with
    | true =>
      obtain ⟨s', b', q', w1, w2, w3⟩ := wake_d h.fr hC hb hi.tr hA
      exact ⟨s', fin s' (fun _ => w1) (fun e => by rw [hwk] at e; cases e), ⟨_, _, b', q', ⟨w2.row, w2.hA, w2.inv, w2.conf, by have := w2.tab; omega⟩, invD_wake hi⟩, h.ho.stp w3 (by simp), w3.2.2 h.fr⟩
    | false =>
      obtain ⟨D, x', hch, hD⟩ := chase_ex ms.tab ms.wl ms.wb (cnt ms.tab a.a.r + 1) (curF ms).rk (curF ms).n a.a.r (by omega)
      have hcn : cnt ms.tab a.a.r ≤ ms.tab.length := List.length_filter_le _ _
      have := hA.tab
      obtain ⟨s', w1, w2, w3⟩ := tell_d h.fr hC hA a.a hbx hsm hch (by unfold BIG; omega)
      exact ⟨s', fin s' (fun e => by rw [hwk] at e; cases e) (fun _ => w1), ⟨_, _, b, q, w2, invD_tell hi⟩, h.ho.stp w3 (by simp), w3.2.2 h.fr⟩
  unfold nextD nextC at go
  split at go
  · split at go
    · exact go (r := ⟨ms.res.e, ms.res.key, .slice none 0 0, ms.res.l, ms.res.r, ms.res.found⟩) rfl (.inl (by simp))
    · exact go (r := zRV) rfl (.inr (.inl (by simp)))
  · split at go
    · exact go (r := zRV) rfl (.inr (.inr (by simp)))
    · split at go
      · exact go (r := zRV) rfl (.inl (by simp))
      · exact go rfl (.inl (by simp))

theorem loop {c : RC} {v : Value} {l : List OpA} {p qc : Nat} {s : St} (hC : okC c.sk) (hb : 0 ≤ c.st.bt) (hbx : ∀ (j : Nat) (a : OpA), l[j]? = some a → bx a.a.v = some [a.a.v] ∧ sameV a.a.v a.a.v = true) (h : Here c v l p qc 0 s) :
    ∃ s', iter (leapfroglaw17x_ReadAsks.l6 std) BIG [v, P p, .int .i64 ((0 : Nat) : Int)] s = some ((0, [], s') : Cut) := by
  refine iter_rel (fun d xs s' => ∃ j, Here c v l p qc j s' ∧ j + d = 100 ∧ xs = [v, P p, .int .i64 (j : Int)])
    (fun y : Option Cut => ∃ s', y = some ((0, [], s') : Cut)) ?_ BIG 100 _ s (by unfold BIG; omega) ⟨0, h, by omega, rfl⟩
  rintro d xs s rec ⟨j, h, hj, rfl⟩ ih
  by_cases h1 : j < l.length
  · have e1 : (j : Int) < l.length := by omega
    cases d with
    | zero =>
      have e2 : ¬ ((j : Int) < 100) := by omega
      exact ⟨s, by simp only [leapfroglaw17x_ReadAsks.l6, sy, reduceIte, Nat.reduceAdd, Nat.reduceLeDiff, Nat.reduceLT, Nat.reduceEqDiff, Int.reduceEq, Int.reduceLT, Int.reduceLE, Int.reduceNe, ly, h.ho.len, e1, e2]⟩
    | succ d =>
      obtain ⟨a, ha⟩ := get_some h1
      obtain ⟨s', g1, g2⟩ := step hC hb h (by omega) ha (.inr trivial) (hbx j a ha).1 (hbx j a ha).2 rec
      rw [g1]
      exact ih d _ _ (by omega) ⟨j + 1, g2, by omega, rfl⟩
  · have e1 : ¬ ((j : Int) < l.length) := by omega
    exact ⟨s, by simp only [leapfroglaw17x_ReadAsks.l6, sy, reduceIte, Nat.reduceAdd, Nat.reduceLeDiff, Nat.reduceLT, Nat.reduceEqDiff, Int.reduceEq, Int.reduceLT, Int.reduceLE, Int.reduceNe, ly, h.ho.len, e1]⟩
theorem rkey_r {s : St} {p : Nat} {c : RC} {X : List Value} (h : s.get p = some (.row 31 [c.cs ++ X] false)) : leapfrogref17x_Read_key.r (P p) s = some (KV 2 c.key) := by
  simp only [leapfrogref17x_Read_key.r, leapfrogref17x_Read_key.t, sy, reduceIte, Nat.reduceAdd, Nat.reduceLeDiff, Nat.reduceLT, Nat.reduceEqDiff, Int.reduceEq, Int.reduceLT, Int.reduceLE, Int.reduceNe, ly, ldc_row h]
theorem rnew_no {s : St} (c : RC) (hb : 0 ≤ c.st.bt) (hC : ¬ okC c.sk) : ∃ s', leapfrogref17x_New.v (.agg ⟨c.cs⟩) s = some (T2 (.pointer none) 170, s') := by
  obtain ⟨X, hX⟩ : ∃ X : List Value, X = [.int .i64 1, .int .i64 0, .pointer none, .int .i64 0, .int .i64 0, .int .u64 0, .int .i64 0, .int .u64 0, .int .i64 0, .int .u64 0, .slice none 0 0, .slice none 0 0, .int .i64 0, .int .i64 0, .int .u64 0, .int .i64 0, .int .u64 0, .int .i64 0, .int .i64 0, .int .u64 0, .int .i64 0, .int .u64 0, .bool false] := ⟨_, rfl⟩
  have e1 : alv s (.agg ⟨c.cs ++ X⟩) = some (P s.n, s.new (.row 31 [c.cs ++ X] false)) := by rw [hX]; rfl
  have g1 : (s.new (.row 31 [c.cs ++ X] false)).get s.n = some (.row 31 [c.cs ++ X] false) := get_new_same
  have rk := rkey_r g1
  rw [hX] at e1 g1 rk
  simp only [ly] at e1 g1 rk
  generalize s.new (.row 31 _ false) = s1 at *
  rcases rnew_r s1 c.sk hb with ⟨_, e2⟩ | ⟨g, _⟩
  · exact ⟨s1, by simp only [leapfrogref17x_New.v, leapfrogref17x_New.t, sy, reduceIte, Nat.reduceAdd, Nat.reduceLeDiff, Nat.reduceLT, Nat.reduceEqDiff, Int.reduceEq, Int.reduceLT, Int.reduceLE, Int.reduceNe, ly, e1, rk, e2]⟩
  · exact absurd g hC
theorem law (s : St) (us : List Value) (ha : AllRo s) (hf : ∀ b, s.n ≤ b → s.get b = none) (h : Args s [(true, [.i .i64, .i .i64, .i .i64, .i .u64, .i .i64, .i .u64, .i .u64, .b]), (false, [.sl [.b, .i .i64, .b, .i .i64, .i .i64, .i .u64, .i .i64, .i .u64, .i .i64, .i .i64, .i .u64, .i .i64, .i .u64, .sl [.i .u8]]])] us) :
    ∃ s', leapfroglaw17x_ReadAsks.w us s = some (.bool true, s') := by
  simp only [Args, Arg] at h
  obtain ⟨_, _, rfl, ⟨_, rfl, h1⟩, v, _, rfl, h2, rfl⟩ := h
  unfold Leaf.Are Leaf.Are at h2
  obtain ⟨v', _, g1, h2, rfl⟩ := h2
  obtain rfl : v = v' := (List.cons.inj g1).1
  simp only [Leaf.Are, Leaf.Is] at h1
  obtain ⟨_, _, rfl, ⟨hh, rfl, _⟩, _, _, rfl, ⟨i1, rfl, _⟩, _, _, rfl, ⟨i2, rfl, _⟩, _, _, rfl, ⟨i3, rfl, _⟩, _, _, rfl, ⟨i4, rfl, _⟩, _, _, rfl, ⟨i5, rfl, hi5⟩, _, _, rfl, ⟨ky, rfl, _⟩, _, _, rfl, ⟨cl, rfl⟩, rfl⟩ := h1
  obtain ⟨l, hl, hval⟩ := isO_of2 h2
  have hm0 := (wf_u64 hi5).1
  show ∃ s', leapfroglaw17x_ReadAsks.v (.agg ⟨(⟨hh, ⟨i1, i2, i3, i4, i5⟩, ky, cl⟩ : RC).cs⟩) v s = some (.bool true, s')
  generalize hc : (⟨hh, ⟨i1, i2, i3, i4, i5⟩, ky, cl⟩ : RC) = c
  have hm0 : 0 ≤ c.st.bt := by rw [← hc]; exact hm0
  have hf : Fresh s := hf
  rcases new_d hf c hm0 with ⟨hC, s1, q1, mo⟩ | ⟨hC, s1, q1, hA, mo⟩
  · obtain ⟨s2, q2⟩ := rnew_no (s := s1) c hm0 hC
    exact ⟨s2, by simp only [leapfroglaw17x_ReadAsks.v, leapfroglaw17x_ReadAsks.t, sy, reduceIte, Nat.reduceAdd, Nat.reduceLeDiff, Nat.reduceLT, Nat.reduceEqDiff, Int.reduceEq, Int.reduceLT, Int.reduceLE, Int.reduceNe, ly, q1, q2, alive_r]⟩
  · have H0 : Here c v l (s.n + 3) s.n 0 s1 := ⟨⟨_, _, _, _, hA, ⟨by simp [mD], by simp [mD]⟩⟩, hl.stp (StpK.more (ks := []) mo hf) (by simp), mo.fresh hf⟩
    obtain ⟨s', e⟩ := loop hC hm0 (fun j a hj => ⟨val_bx (hval j a hj), val_same (hval j a hj)⟩) H0
    rw [show ((0 : Nat) : Int) = 0 from rfl] at e
    exact ⟨s', by simp only [leapfroglaw17x_ReadAsks.v, leapfroglaw17x_ReadAsks.t, sy, reduceIte, Nat.reduceAdd, Nat.reduceLeDiff, Nat.reduceLT, Nat.reduceEqDiff, Int.reduceEq, Int.reduceLT, Int.reduceLE, Int.reduceNe, ly, q1, e, alive_r]⟩
end ReadAsks
end Go.Proofs.YtjiknclbjbfdjaaGreat
