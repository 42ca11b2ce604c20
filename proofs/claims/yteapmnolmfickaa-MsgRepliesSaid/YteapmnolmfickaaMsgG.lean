/-
  Replies.
-/
import Derived.Test.YteapmnolmfickaaMsgF
set_option linter.unusedSimpArgs false
set_option linter.unusedVariables false
set_option maxRecDepth 100000
set_option maxHeartbeats 4000000
namespace Go.Proofs.Yteapmnolmfickaa
open Go.Sim Go.Sim.Bt
attribute [local congr] bdc cndc itec gdc gdSc gdUc

theorem clone_b {s : St} {v : Value} {l : List (List Value)} (hf : Fresh s) (h : Byt s v l) (hl : l.length ≤ 140737488355328) : ∃ w s', slices_Clone_byte_byte.v v s = some (w, s') ∧ More s s' ∧ Byt s' w l := by
  obtain ⟨a, n, k, rfl⟩ := h.sl
  cases a with
  | none =>
    have hr := h.rows
    have hlen := h.len
    simp only [lenV, Option.some.injEq] at hlen
    cases n with
    | zero =>
      cases k with
      | zero =>
        have e : eqb [4] false false (.slice none 0 0) (.slice none 0 0) = some (.bool true) := rfl
        exact ⟨_, s, by simp only [slices_Clone_byte_byte.v, slices_Clone_byte_byte.t, sy, reduceIte, Nat.reduceAdd, Nat.reduceLeDiff, Nat.reduceLT, Nat.reduceEqDiff, Int.reduceEq, Int.reduceLT, Int.reduceLE, Int.reduceNe, ly, e], .refl _, h⟩
      | succ k => simp [rowsOf] at hr
    | succ n => simp [rowsOf] at hr
  | some a =>
    obtain ⟨w, s', e1, e2, e3⟩ := clone_r hf h hl
    have e : eqb [4] false false (.slice (some a) n k) (.slice none 0 0) = some (.bool false) := rfl
    have z0 : 2 * 0 = 0 := rfl
    have rp0 : List.replicate 0 [Value.int .u8 0] = [] := rfl
    exact ⟨w, s', by simp only [slices_Clone_byte_byte.v, slices_Clone_byte_byte.t, sy, reduceIte, Nat.reduceAdd, Nat.reduceLeDiff, Nat.reduceLT, Nat.reduceEqDiff, Int.reduceEq, Int.reduceLT, Int.reduceLE, Int.reduceNe, ly, e, rp0, als_eq, z0, e1], e2, e3⟩
/-- The bytes of rows. -/
noncomputable def xOf (l : List (List Value)) : ByteArray := ⟨⟨(bytesOf l).getD []⟩⟩
theorem Byt.vb {s : St} {v : Value} {l : List (List Value)} (h : Byt s v l) : VB s v (xOf l) l.length := by
  obtain ⟨bs, hb⟩ := h.ok
  refine ⟨h.bx, ?_, h.lenL⟩
  rw [h.b2s bs hb]
  unfold xOf
  rw [hb]
  rfl
theorem Byt.mr {s s' : St} {v : Value} {l : List (List Value)} (h : Byt s v l) (m : More s s') (f : Fresh s) : Byt s' v l := h.stp (StpK.more (ks := []) m f) (by simp)

/-- The reply to a packet. -/
def rePk (p : Pk) (a : Ans) : Pk := ⟨true, p.ta, p.tn, p.fa, p.fn, p.id, a0K 0, a⟩
def zPk : Pk := ⟨false, false, 0, false, 0, 0, a0K 0, zN 0⟩
def okRe (p : Pk) (a : Ans) (x : ByteArray) (n : Nat) (y : ByteArray) (m : Nat) : Prop := okPk p x n ∧ p.rep = false ∧ okN a y m
theorem reply_v {s : St} (p : Pk) (a : Ans) {l la : List (List Value)} (hf : Fresh s) (hA : PkA p) (h1 : 0 ≤ a.l.bt) (h2 : 0 ≤ a.r.bt) (hp : Byt s p.ans.v l) (ha : Byt s a.v la) (hla : la.length ≤ 140737488355328) :
    (okRe p a (xOf l) l.length (xOf la) la.length → ∃ w s', msg_Reply.v (.agg ⟨p.cs⟩) (.agg ⟨a.cs⟩) s = some (.tuple ⟨[.agg ⟨(rePk p { a with v := w }).cs⟩, .int .i64 0]⟩, s') ∧ More s s' ∧ Byt s' w la) ∧
    (¬ okRe p a (xOf l) l.length (xOf la) la.length → msg_Reply.v (.agg ⟨p.cs⟩) (.agg ⟨a.cs⟩) s = some (.tuple ⟨[.agg ⟨zPk.cs⟩, .int .i64 40]⟩, s)) := by
  have e1 := pcheckP p s hf hA hp.vb
  have e2 := pcheckN a s ha.vb h1 h2
  obtain ⟨w, s', c1, c2, c3⟩ := clone_b hf ha hla
  have wbx := c3.bx
  constructor
  · rintro ⟨k1, k2, k3⟩
    rw [if_pos k1] at e1
    rw [if_pos k3] at e2
    refine ⟨w, s', ?_, c2, c3⟩
    simp only [Pk.cs, aC, Ans.cs, Rf.cs, List.cons_append, List.nil_append, k2] at e1 e2
    simp only [msg_Reply.v, msg_Reply.t, msg_Reply.t.p1, Pk.cs, aC, Ans.cs, Rf.cs, sy, reduceIte, Nat.reduceAdd, Nat.reduceLeDiff, Nat.reduceLT, Nat.reduceEqDiff, Int.reduceEq, Int.reduceLT, Int.reduceLE, Int.reduceNe, ly, k2, e1, e2, c1, wbx, rePk, a0K, zR]
  · intro k
    by_cases k1 : okPk p (xOf l) l.length
    · rw [if_pos k1] at e1
      cases k2 : p.rep
      · have k3 : ¬ okN a (xOf la) la.length := fun e => k ⟨k1, k2, e⟩
        rw [if_neg k3] at e2
        simp only [Pk.cs, aC, Ans.cs, Rf.cs, List.cons_append, List.nil_append, k2] at e1 e2
        simp only [msg_Reply.v, msg_Reply.t, msg_Reply.t.p1, Pk.cs, aC, Ans.cs, Rf.cs, sy, reduceIte, Nat.reduceAdd, Nat.reduceLeDiff, Nat.reduceLT, Nat.reduceEqDiff, Int.reduceEq, Int.reduceLT, Int.reduceLE, Int.reduceNe, ly, k2, e1, e2, zPk, zN, a0K, zR, nilB]
      · simp only [Pk.cs, aC, Ans.cs, Rf.cs, List.cons_append, List.nil_append, k2] at e1
        simp only [msg_Reply.v, msg_Reply.t, msg_Reply.t.p1, Pk.cs, aC, Ans.cs, Rf.cs, sy, reduceIte, Nat.reduceAdd, Nat.reduceLeDiff, Nat.reduceLT, Nat.reduceEqDiff, Int.reduceEq, Int.reduceLT, Int.reduceLE, Int.reduceNe, ly, k2, e1, zPk, zN, a0K, zR, nilB]
    · rw [if_neg k1] at e1
      simp only [Pk.cs, aC, Ans.cs, Rf.cs, List.cons_append, List.nil_append] at e1
      simp only [msg_Reply.v, msg_Reply.t, msg_Reply.t.p1, Pk.cs, aC, Ans.cs, Rf.cs, sy, reduceIte, Nat.reduceAdd, Nat.reduceLeDiff, Nat.reduceLT, Nat.reduceEqDiff, Int.reduceEq, Int.reduceLT, Int.reduceLE, Int.reduceNe, ly, e1, zPk, zN, a0K, zR, nilB]
theorem rreply_r {s : St} (p : Pk) (a : Ans) {l la : List (List Value)} (hf : Fresh s) (hA : PkA p) (h1 : 0 ≤ a.l.bt) (h2 : 0 ≤ a.r.bt) (hp : Byt s p.ans.v l) (ha : Byt s a.v la) :
    (okRe p a (xOf l) l.length (xOf la) la.length → leapfrogref04x_Reply.r (.agg ⟨p.cs⟩) (.agg ⟨a.cs⟩) s = some (.tuple ⟨[.agg ⟨(rePk p a).cs⟩, .int .i64 0]⟩)) ∧
    (¬ okRe p a (xOf l) l.length (xOf la) la.length → leapfrogref04x_Reply.r (.agg ⟨p.cs⟩) (.agg ⟨a.cs⟩) s = some (.tuple ⟨[.agg ⟨zPk.cs⟩, .int .i64 40]⟩)) := by
  have e1 := rcheckP p s hf hA hp.vb
  have e2 := rcheckN a s ha.vb h1 h2
  have abx := ha.bx
  constructor
  · rintro ⟨k1, k2, k3⟩
    rw [if_pos k1] at e1
    rw [if_pos k3] at e2
    simp only [Pk.cs, aC, Ans.cs, Rf.cs, List.cons_append, List.nil_append, k2] at e1 e2
    simp only [leapfrogref04x_Reply.r, leapfrogref04x_Reply.t, leapfrogref04x_Reply.t.p1, Pk.cs, aC, Ans.cs, Rf.cs, sy, reduceIte, Nat.reduceAdd, Nat.reduceLeDiff, Nat.reduceLT, Nat.reduceEqDiff, Int.reduceEq, Int.reduceLT, Int.reduceLE, Int.reduceNe, ly, k2, e1, e2, abx, rePk, a0K, zR]
  · intro k
    by_cases k1 : okPk p (xOf l) l.length
    · rw [if_pos k1] at e1
      cases k2 : p.rep
      · have k3 : ¬ okN a (xOf la) la.length := fun e => k ⟨k1, k2, e⟩
        rw [if_neg k3] at e2
        simp only [Pk.cs, aC, Ans.cs, Rf.cs, List.cons_append, List.nil_append, k2] at e1 e2
        simp only [leapfrogref04x_Reply.r, leapfrogref04x_Reply.t, leapfrogref04x_Reply.t.p1, Pk.cs, aC, Ans.cs, Rf.cs, sy, reduceIte, Nat.reduceAdd, Nat.reduceLeDiff, Nat.reduceLT, Nat.reduceEqDiff, Int.reduceEq, Int.reduceLT, Int.reduceLE, Int.reduceNe, ly, k2, e1, e2, zPk, zN, a0K, zR, nilB]
      · simp only [Pk.cs, aC, Ans.cs, Rf.cs, List.cons_append, List.nil_append, k2] at e1
        simp only [leapfrogref04x_Reply.r, leapfrogref04x_Reply.t, leapfrogref04x_Reply.t.p1, Pk.cs, aC, Ans.cs, Rf.cs, sy, reduceIte, Nat.reduceAdd, Nat.reduceLeDiff, Nat.reduceLT, Nat.reduceEqDiff, Int.reduceEq, Int.reduceLT, Int.reduceLE, Int.reduceNe, ly, k2, e1, zPk, zN, a0K, zR, nilB]
    · rw [if_neg k1] at e1
      simp only [Pk.cs, aC, Ans.cs, Rf.cs, List.cons_append, List.nil_append] at e1
      simp only [leapfrogref04x_Reply.r, leapfrogref04x_Reply.t, leapfrogref04x_Reply.t.p1, Pk.cs, aC, Ans.cs, Rf.cs, sy, reduceIte, Nat.reduceAdd, Nat.reduceLeDiff, Nat.reduceLT, Nat.reduceEqDiff, Int.reduceEq, Int.reduceLT, Int.reduceLE, Int.reduceNe, ly, e1, zPk, zN, a0K, zR, nilB]
theorem cut_r {s : St} {v : Value} (h : ValIs s v) : ∃ w l, leapfroglaw04x_cut.r v s = some w ∧ Byt s w l ∧ l.length ≤ 3000 := by
  obtain ⟨l, hb⟩ := byt_val h
  have hl := hb.lenL
  by_cases c : 3000 < l.length
  · obtain ⟨w, l', g1, g2, g3⟩ := byt_cut h hl (k := 3000) (by omega)
    have c' : (3000 : Int) < (l.length : Int) := by omega
    have g1 : slc s 1 v none (some (.int .i64 3000)) none = some w := g1
    refine ⟨w, l', ?_, g2, by omega⟩
    simp only [leapfroglaw04x_cut.r, leapfroglaw04x_cut.t, sy, reduceIte, Nat.reduceAdd, Nat.reduceLeDiff, Nat.reduceLT, Nat.reduceEqDiff, Int.reduceEq, Int.reduceLT, Int.reduceLE, Int.reduceNe, ly, hl, c', g1]
  · have c' : ¬ (3000 : Int) < (l.length : Int) := by omega
    refine ⟨v, l, ?_, hb, by omega⟩
    simp only [leapfroglaw04x_cut.r, leapfroglaw04x_cut.t, sy, reduceIte, Nat.reduceAdd, Nat.reduceLeDiff, Nat.reduceLT, Nat.reduceEqDiff, Int.reduceEq, Int.reduceLT, Int.reduceLE, Int.reduceNe, ly, hl, c']
theorem ans_arg {s : St} {r : List Value} (h : Leaf.Are s [.i .i64, .b, .i .i64, .i .i64, .i .u64, .i .i64, .i .u64, .i .i64, .i .i64, .i .u64, .i .i64, .i .u64, .sl [.i .u8]] r) : ∃ a : Ans, r = a.cs ∧ 0 ≤ a.l.bt ∧ 0 ≤ a.r.bt ∧ ValIs s a.v := by
  have e : ∀ v, Leaf.Is s (.sl [.i .u8]) v → ValIs s v := fun _ h => h
  obtain ⟨_, _, rfl, k1, _, _, rfl, k2, _, _, rfl, k3, _, _, rfl, k4, _, _, rfl, k5, _, _, rfl, k6, _, _, rfl, k7, _, _, rfl, k8, _, _, rfl, k9, _, _, rfl, k10, _, _, rfl, k11, _, _, rfl, k12, v, _, rfl, hv, rfl⟩ := h
  simp only [Leaf.Is] at k1 k2 k3 k4 k5 k6 k7 k8 k9 k10 k11 k12
  obtain ⟨a1, rfl, w1⟩ := k1
  obtain ⟨a2, rfl⟩ := k2
  obtain ⟨a3, rfl, w3⟩ := k3
  obtain ⟨a4, rfl, w4⟩ := k4
  obtain ⟨a5, rfl, w5⟩ := k5
  obtain ⟨a6, rfl, w6⟩ := k6
  obtain ⟨a7, rfl, w7⟩ := k7
  obtain ⟨a8, rfl, w8⟩ := k8
  obtain ⟨a9, rfl, w9⟩ := k9
  obtain ⟨a10, rfl, w10⟩ := k10
  obtain ⟨a11, rfl, w11⟩ := k11
  obtain ⟨a12, rfl, w12⟩ := k12
  exact ⟨⟨a1, a2, ⟨a3, a4, a5, a6, a7⟩, ⟨a8, a9, a10, a11, a12⟩, v⟩, rfl, (wf_u64 w7).1, (wf_u64 w12).1, e _ hv⟩
end Go.Proofs.Yteapmnolmfickaa
