/-
  RemoveRuns, over abstract values.
-/
import Derived.Test.YtdppefkjoeefnaaRemE
set_option linter.unusedSimpArgs false
set_option linter.unusedVariables false
set_option maxRecDepth 100000
set_option maxHeartbeats 2000000
namespace Go.Proofs.Ytdppefkjoeefnaa
open Go.Sim Go.Sim.Bt
attribute [local congr] bdc cndc itec gdc gdSc gdUc
namespace RemoveRuns

theorem alive_r (s : St) : leapfroglaw16x_awakeC.r s = some (.bool true) := rfl
theorem wakes_some (W : Nat) (j : Nat) (s : St) (hj : j ≤ 1000) (hW : W < 2 ^ 64) : ∃ b : Bool, ((bin .rem (.int .i64 (j : Int)) (.int .i64 64)).bind fun x67 => (cvi .u64 x67).bind fun x68 => (bin .shr (.int .u64 (W : Int)) x68).bind fun x69 => (bin .and x69 (.int .u64 1)).bind fun x70 => eqb [1] false false x70 (.int .u64 1)) = some (.bool b) := by
  have e1 : bin .rem (.int .i64 (j : Int)) (.int .i64 64) = some (.int .i64 ((j % 64 : Nat) : Int)) := by rw [bin_rem (by omega)]; rfl
  have e2 : IntKind.u64.wrap ((j % 64 : Nat) : Int) = ((j % 64 : Nat) : Int) := wrapu64 (by omega) (by omega)
  have e3 := @shr_u64 W (j % 64) .u64 (by omega)
  have e4 : bin .and (.int .u64 ((W / 2 ^ (j % 64) : Nat) : Int)) (.int .u64 1) = some (.int .u64 ((W / 2 ^ (j % 64) &&& 1 : Nat) : Int)) := @and_u64 _ 1 (Nat.lt_of_le_of_lt (Nat.div_le_self _ _) hW) (by omega)
  exact ⟨_, by simp only [sy, reduceIte, Nat.reduceAdd, Nat.reduceLeDiff, Nat.reduceLT, Nat.reduceEqDiff, Int.reduceEq, Int.reduceLT, Int.reduceLE, Int.reduceNe, e1, e2, e3, e4]; rfl⟩
structure Two (c : RC) (p pr n0 d b q : Nat) (j : Nat) (m : RS) (U V : Nat) (s : St) : Prop where
  hp : AtP c s p b q U m
  hq : AtQ c s n0 pr d V j m
  inv : InvR c j m
  fr : Fresh s
  ne : p ≠ pr
  uv : U ≠ V
  ul : U < s.n
  vl : V < s.n
theorem Two.tell {c : RC} {p pr n0 d b q j : Nat} {m : RS} {U V : Nat} {s : St} (hC : okC c.sk) (hO : okO c.oa c.oo) (T : Two c p pr n0 d b q j m U V s) (hj : j ≤ 80000) {a : Ans} (ha : PosA a) {v : Value} {l : List Ans} (hA : IsA s v l) (hv : ∀ b i len e, v = .slice (some ⟨b, i, some 0⟩) len e → b < n0) :
    ∃ s1 s2 m' U' V', remove_Remove_Tell.v (P p) (.agg ⟨a.cs⟩) s = some (unit', s1) ∧ leapfrogref16x_Remove_Tell.v (P pr) (.agg ⟨a.cs⟩) s1 = some (unit', s2) ∧ Two c p pr n0 d b q (j + 1) m' U' V' s2 ∧ IsA s1 v l ∧ IsA s2 v l := by
  obtain ⟨xo, hx, px⟩ := has_ex T.inv (by omega) ha
  obtain ⟨s1, U1, e1, p1, k1, u1⟩ := tell_p T.fr hC hO T.hp T.inv a hx
  have f1 := k1.2.2 T.fr
  obtain ⟨s2, V1, e2, q2, k2, v2⟩ := tell_q f1 (by omega) hO (T.hq.stx k1 T.ne T.uv) T.inv a hx
  have i2 := inv_tellS hC T.inv ha px
  have f2 := k2.2.2 f1
  have n1 := k1.1
  have n2 := k2.1
  have A1 := hA.stx hv k1 (by intro x _; simp)
  have A2 := A1.stx hv k2 (by intro x hx; simp; omega)
  have ul := T.ul
  have vl := T.vl
  have uv := T.uv
  generalize tellS c a xo m = m2 at *
  cases hm : isLv m2 with
  | true =>
    have u1l := p1.lt f1 hm
    have v1l := q2.lt f2 hm
    have huv : U1 ≠ V1 := by omega
    have huv2 : U1 ≠ V := by omega
    exact ⟨s1, s2, m2, U1, V1, e1, e2, ⟨p1.stx k2 T.ne huv2, q2, i2, f2, T.ne, huv, by omega, v1l⟩, A1, A2⟩
  | false =>
    exact ⟨s1, s2, m2, U, V, e1, e2, ⟨(p1.any hm U).stx k2 T.ne uv, q2.any hm V, i2, f2, T.ne, uv, by omega, by omega⟩, A1, A2⟩
theorem Two.wake {c : RC} {p pr n0 d b q j : Nat} {m : RS} {U V : Nat} {s : St} (hO : okO c.oa c.oo) (T : Two c p pr n0 d b q j m U V s) {v : Value} {l : List Ans} (hA : IsA s v l) (hv : ∀ b i len e, v = .slice (some ⟨b, i, some 0⟩) len e → b < n0) :
    ∃ s1 s2, remove_Remove_Wake.v (P p) s = some (unit', s1) ∧ leapfrogref16x_Remove_Wake.v (P pr) s1 = some (unit', s2) ∧ Two c p pr n0 d b q j (wakeS m) U V s2 ∧ IsA s2 v l := by
  obtain ⟨s1, e1, p1, k1, n1⟩ := wake_p T.fr hO T.hp T.inv
  have f1 := k1.2.2 T.fr
  obtain ⟨s2, e2, q2, k2, n2⟩ := wake_q f1 (T.hq.stx k1 T.ne T.uv) T.inv
  have A1 := hA.stx hv k1 (by intro x _; simp)
  have A2 := A1.stx hv k2 (by intro x hx; simp; omega)
  have ul := T.ul
  have vl := T.vl
  exact ⟨s1, s2, e1, e2, ⟨p1.stx k2 T.ne T.uv, q2, inv_wakeS T.inv, k2.2.2 f1, T.ne, T.uv, by omega, by omega⟩, A2⟩
structure Here (c : RC) (v : Value) (l : List Ans) (p pr n0 j : Nat) (s : St) : Prop where
  ex : ∃ d b q m U V, Two c p pr n0 d b q j m U V s
  ha : IsA s v l
  hv : ∀ b i len e, v = .slice (some ⟨b, i, some 0⟩) len e → b < n0
  pos : ∀ (j : Nat) a, l[j]? = some a → PosA a
theorem step {c : RC} {v : Value} {l : List Ans} {p pr n0 j W : Nat} {s : St} (hC : okC c.sk) (hO : okO c.oa c.oo) (hW : W < 2 ^ 64) (h : Here c v l p pr n0 j s) (hj : j < 300) {a : Ans} (ha : l[j]? = some a) (hl : l.length ≤ 9223372036854775807) (rec : List Value → St → Option Cut) :
    ∃ s', leapfroglaw16x_RemoveRuns.l8 std rec [v, .int .u64 (W : Int), P p, P pr, .int .i64 (j : Int)] s = rec [v, .int .u64 (W : Int), P p, P pr, .int .i64 ((j + 1 : Nat) : Int)] s' ∧ Here c v l p pr n0 (j + 1) s' := by
  obtain ⟨d, b, q, m, U, V, T⟩ := h.ex
  have n1 := next_p T.hp T.inv
  have n2 := next_q T.fr T.hq T.inv
  have n3 := same_S c m s
  have mp := marked_p T.hp
  have mq := mark_q T.hq
  have hjl : j < l.length := (List.getElem?_eq_some_iff.1 ha).1
  have e1 : (j : Int) < l.length := by omega
  have e2 : (j : Int) < 300 := by omega
  have e5 : IntKind.i64.wrap ((j : Int) + 1) = ((j + 1 : Nat) : Int) := by rw [wrap64 (by omega) (by omega)]; omega
  have hnil : eqb [3] false true (P pr) (.pointer none) = some (.bool true) := rfl
  obtain ⟨s1, s2, m', U', V', t1, t2, T2, A1, A2⟩ := T.tell hC hO (by omega) (h.pos j a ha) h.ha h.hv
  obtain ⟨p0, p1, p2⟩ := h.ha.load ha
  obtain ⟨q0, q1, q2⟩ := A1.load ha
  have H2 : Here c v l p pr n0 (j + 1) s2 := ⟨⟨d, b, q, m', U', V', T2⟩, A2, h.hv, h.pos⟩
  obtain ⟨wb, wk⟩ := wakes_some W j s2 (by omega) hW
  have hlen := h.ha.len
  have mm : ∀ x : Bool, eqb [0] false true (.bool x) (.bool x) = some (.bool false) := fun x => by cases x <;> rfl
  have mm := mm (markS m)
  generalize markS m = mk at *
  generalize nextS c m = nx at *
  have step : leapfroglaw16x_RemoveRuns.l8 std rec [v, .int .u64 (W : Int), P p, P pr, .int .i64 (j : Int)] s =
      ((bin .rem (.int .i64 (j : Int)) (.int .i64 64)).bind fun x67 => (cvi .u64 x67).bind fun x68 => (bin .shr (.int .u64 (W : Int)) x68).bind fun x69 => (bin .and x69 (.int .u64 1)).bind fun x70 => eqb [1] false false x70 (.int .u64 1)).bind fun x71 =>
        cnd x71 ((remove_Remove_Wake.v (P p) s2).bind fun r72 => (leapfrogref16x_Remove_Wake.v (P pr) r72.2).bind fun r73 => rec [v, .int .u64 (W : Int), P p, P pr, Value.int .i64 ((j + 1 : Nat) : Int)] r73.2) (rec [v, .int .u64 (W : Int), P p, P pr, Value.int .i64 ((j + 1 : Nat) : Int)] s2) := by
    cases mk <;>
    · simp only [leapfroglaw16x_RemoveRuns.l8, leapfroglaw16x_RemoveRuns.l8.p1, sy, reduceIte, Nat.reduceAdd, Nat.reduceLeDiff, Nat.reduceLT, Nat.reduceEqDiff, Int.reduceEq, Int.reduceLT, Int.reduceLE, Int.reduceNe, ly, hlen, e1, e2, hnil, n1, n2, n3, mp, mq, p1, p2, t1, q1, q2, t2, e5]
      cases (bin .rem (.int .i64 (j : Int)) (.int .i64 64)) with
      | none => rfl
      | some x67 =>
        simp only [bds]
        cases (cvi .u64 x67) with
        | none => rfl
        | some x68 =>
          simp only [bds]
          cases (bin .shr (.int .u64 (W : Int)) x68) with
          | none => rfl
          | some x69 =>
            simp only [bds]
            cases (bin .and x69 (.int .u64 1)) <;> rfl
  rw [step, wk]
  cases wb with
  | false =>
    exact ⟨s2, by simp only [sy, reduceIte, Nat.reduceAdd, Nat.reduceLeDiff, Nat.reduceLT, Nat.reduceEqDiff, Int.reduceEq, Int.reduceLT, Int.reduceLE, Int.reduceNe], H2⟩
  | true =>
    obtain ⟨s3, s4, w1, w2, T3, A3⟩ := T2.wake hO A2 h.hv
    exact ⟨s4, by simp only [sy, reduceIte, Nat.reduceAdd, Nat.reduceLeDiff, Nat.reduceLT, Nat.reduceEqDiff, Int.reduceEq, Int.reduceLT, Int.reduceLE, Int.reduceNe, w1, w2], ⟨⟨d, b, q, _, U', V', T3⟩, A3, h.hv, h.pos⟩⟩
theorem loop {c : RC} {v : Value} {l : List Ans} {p pr n0 W : Nat} {s : St} (hC : okC c.sk) (hO : okO c.oa c.oo) (hW : W < 2 ^ 64) (h : Here c v l p pr n0 0 s) (hl : l.length ≤ 9223372036854775807) :
    ∃ s' N, iter (leapfroglaw16x_RemoveRuns.l8 std) BIG [v, .int .u64 (W : Int), P p, P pr, .int .i64 ((0 : Nat) : Int)] s = some ((0, [P p, P pr], s') : Cut) ∧ Here c v l p pr n0 N s' := by
  refine iter_rel (fun d xs s' => ∃ j, Here c v l p pr n0 j s' ∧ j + d = 300 ∧ xs = [v, .int .u64 (W : Int), P p, P pr, .int .i64 (j : Int)])
    (fun y : Option Cut => ∃ s' N, y = some ((0, [P p, P pr], s') : Cut) ∧ Here c v l p pr n0 N s') ?_ BIG 300 _ s (by unfold BIG; omega) ⟨0, h, by omega, rfl⟩
  rintro d xs s rec ⟨j, h, hj, rfl⟩ ih
  by_cases h1 : j < l.length
  · have e1 : (j : Int) < l.length := by omega
    cases d with
    | zero =>
      have e2 : ¬ ((j : Int) < 300) := by omega
      exact ⟨s, j, by simp only [leapfroglaw16x_RemoveRuns.l8, sy, reduceIte, Nat.reduceAdd, Nat.reduceLeDiff, Nat.reduceLT, Nat.reduceEqDiff, Int.reduceEq, Int.reduceLT, Int.reduceLE, Int.reduceNe, ly, h.ha.len, e1, e2], h⟩
    | succ d =>
      obtain ⟨a, ha⟩ := get_some h1
      obtain ⟨s', g1, g2⟩ := step hC hO hW h (by omega) ha hl rec
      rw [g1]
      exact ih d _ _ (by omega) ⟨j + 1, g2, by omega, rfl⟩
  · have e1 : ¬ ((j : Int) < l.length) := by omega
    exact ⟨s, j, by simp only [leapfroglaw16x_RemoveRuns.l8, sy, reduceIte, Nat.reduceAdd, Nat.reduceLeDiff, Nat.reduceLT, Nat.reduceEqDiff, Int.reduceEq, Int.reduceLT, Int.reduceLE, Int.reduceNe, ly, h.ha.len, e1], h⟩
theorem law (s : St) (us : List Value) (ha : AllRo s) (hf : ∀ b, s.n ≤ b → s.get b = none) (h : Args s [(true, [.i .i64, .i .i64, .i .i64, .i .u64, .i .i64, .i .u64, .i .u64, .i .i64, .i .i64]), (false, [.sl [.i .i64, .b, .i .i64, .i .i64, .i .u64, .i .i64, .i .u64, .i .i64, .i .i64, .i .u64, .i .i64, .i .u64, .sl [.i .u8]]]), (false, [.i .u64])] us) :
    ∃ s', leapfroglaw16x_RemoveRuns.w us s = some (.bool true, s') := by
  simp only [Args, Arg] at h
  obtain ⟨_, _, rfl, ⟨_, rfl, h1⟩, v, _, rfl, h2, w, _, rfl, h3, rfl⟩ := h
  unfold Leaf.Are Leaf.Are at h2 h3
  obtain ⟨v', _, g1, h2, rfl⟩ := h2
  obtain rfl : v = v' := (List.cons.inj g1).1
  obtain ⟨w', _, g2, h3, rfl⟩ := h3
  obtain rfl : w = w' := (List.cons.inj g2).1
  simp only [Leaf.Are, Leaf.Is] at h1
  unfold Leaf.Is at h3
  obtain ⟨_, _, rfl, ⟨hh, rfl, _⟩, _, _, rfl, ⟨i1, rfl, _⟩, _, _, rfl, ⟨i2, rfl, _⟩, _, _, rfl, ⟨i3, rfl, _⟩, _, _, rfl, ⟨i4, rfl, _⟩, _, _, rfl, ⟨i5, rfl, hi5⟩, _, _, rfl, ⟨ky, rfl, _⟩, _, _, rfl, ⟨oa, rfl, _⟩, _, _, rfl, ⟨oo, rfl, _⟩, rfl⟩ := h1
  obtain ⟨W, rfl, hW⟩ := h3
  obtain ⟨W, rfl⟩ : ∃ w : Nat, W = w := ⟨W.toNat, by have := (wf_u64 hW).1; omega⟩
  have hW : W < 2 ^ 64 := by have := (wf_u64 hW).2; omega
  obtain ⟨l, hl, pos, hlen⟩ := isA_of3 h2
  have hm0 := (wf_u64 hi5).1
  have hf : Fresh s := hf
  have hv : ∀ b i len e, v = .slice (some ⟨b, i, some 0⟩) len e → b < s.n := by
    intro b i len e hv
    rcases hl with ⟨h0, _⟩ | ⟨b', i', e', rows, ro, h0, hg, _⟩
    · rw [hv] at h0; cases h0
    · rw [hv] at h0; cases h0
      exact hf.lt hg
  show ∃ s', leapfroglaw16x_RemoveRuns.v (.agg ⟨(⟨hh, ⟨i1, i2, i3, i4, i5⟩, ky, oa, oo⟩ : RC).cs⟩) v (.int .u64 (W : Int)) s = some (.bool true, s')
  generalize hc : (⟨hh, ⟨i1, i2, i3, i4, i5⟩, ky, oa, oo⟩ : RC) = c
  have hm0 : 0 ≤ c.st.bt := by rw [← hc]; exact hm0
  have hn1 : ∀ x : Nat, eqb [3] false false (P x) (.pointer none) = some (.bool false) := fun _ => rfl
  have hn2 : eqb [3] false false (.pointer none) (.pointer none) = some (.bool true) := rfl
  rcases new_p hf c hm0 with ⟨hC, s1, q1, mo⟩ | ⟨hC, s1, q1, hA, mo, hn⟩
  · have f1 := mo.fresh hf
    rcases rnew_q f1 c hm0 with ⟨_, s2, q2, _⟩ | ⟨g, _⟩
    · have hlp : iter (leapfroglaw16x_RemoveRuns.l8 std) BIG [v, .int .u64 (W : Int), .pointer none, .pointer none, Value.int .i64 0] s2 = some (0, [.pointer none, .pointer none], s2) := by
        rw [show BIG = 4611686018427387903 + 1 from rfl, iter_succ]
        have hnil : eqb [3] false true (.pointer none) (.pointer none) = some (.bool false) := rfl
        have e2 : (0 : Int) < 300 := by omega
        by_cases e1 : (0 : Int) < l.length
        · simp only [leapfroglaw16x_RemoveRuns.l8, sy, reduceIte, Nat.reduceAdd, Nat.reduceLeDiff, Nat.reduceLT, Nat.reduceEqDiff, Int.reduceEq, Int.reduceLT, Int.reduceLE, Int.reduceNe, ly, hl.len, e1, e2, hnil]
        · simp only [leapfroglaw16x_RemoveRuns.l8, sy, reduceIte, Nat.reduceAdd, Nat.reduceLeDiff, Nat.reduceLT, Nat.reduceEqDiff, Int.reduceEq, Int.reduceLT, Int.reduceLE, Int.reduceNe, ly, hl.len, e1]
      exact ⟨s2, by simp only [leapfroglaw16x_RemoveRuns.v, leapfroglaw16x_RemoveRuns.t, leapfroglaw16x_RemoveRuns.t.p1, sy, reduceIte, Nat.reduceAdd, Nat.reduceLeDiff, Nat.reduceLT, Nat.reduceEqDiff, Int.reduceEq, Int.reduceLT, Int.reduceLE, Int.reduceNe, ly, alive_r, q1, q2, hlp]⟩
    · exact absurd g hC
  · have f1 := mo.fresh hf
    rcases rnew_q f1 c hm0 with ⟨g, _⟩ | ⟨_, s2, q2, hQ, mo2, hn2'⟩
    · exact absurd hC g
    · have f2 := mo2.fresh f1
      have i0 : InvR c 0 (.seek (m0 c.sk)) := ⟨inv_m0 hC.1, rfl, Nat.le_refl _, ⟨hm0, Int.le_refl 0, Int.le_refl 0, fun e he => by simp [m0] at he⟩⟩
      have hA2 : AtP c s2 (s.n + 2) (s.n + 1) s.n 0 (.seek (m0 c.sk)) := ⟨mo2.get f1 hA.1, ⟨mo2.get f1 hA.2.row, mo2.get f1 hA.2.map⟩⟩
      have T0 : Two c (s.n + 2) (s1.n + 1) s1.n s1.n (s.n + 1) s.n 0 (.seek (m0 c.sk)) 0 1 s2 := ⟨hA2, hQ, i0, f2, by omega, by omega, by omega, by omega⟩
      have H0 : Here c v l (s.n + 2) (s1.n + 1) s1.n 0 s2 := ⟨⟨_, _, _, _, _, _, T0⟩, (hl.more mo hf).more mo2 f1, fun b i len e hb => by have := hv b i len e hb; omega, pos⟩
      obtain ⟨s', N, e, h'⟩ := loop hC.1 hC.2 hW H0 hlen
      rw [show ((0 : Nat) : Int) = 0 from rfl] at e
      obtain ⟨d, b, q, m, U, V, T⟩ := h'.ex
      have n1 := next_p T.hp T.inv
      have n2 := next_q T.fr T.hq T.inv
      have n3 := same_S c m s'
      have mp := marked_p T.hp
      have mq := mark_q T.hq
      generalize markS m = mk at *
      generalize nextS c m = nx at *
      exact ⟨s', by cases mk <;> simp only [leapfroglaw16x_RemoveRuns.v, leapfroglaw16x_RemoveRuns.t, leapfroglaw16x_RemoveRuns.t.p1, sy, reduceIte, Nat.reduceAdd, Nat.reduceLeDiff, Nat.reduceLT, Nat.reduceEqDiff, Int.reduceEq, Int.reduceLT, Int.reduceLE, Int.reduceNe, ly, alive_r, q1, q2, e, hn1, hn2, n1, n2, n3, mp, mq]⟩
end RemoveRuns
end Go.Proofs.Ytdppefkjoeefnaa
