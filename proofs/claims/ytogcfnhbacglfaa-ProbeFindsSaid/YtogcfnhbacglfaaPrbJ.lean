/-
  A probe in a graph: it is asked and told to its end.
-/
import Derived.Test.YtogcfnhbacglfaaPrbI
set_option linter.unusedSimpArgs false
set_option linter.unusedVariables false
set_option maxRecDepth 100000
set_option maxHeartbeats 4000000
namespace Go.Proofs.Ytogcfnhbacglfaa
open Go.Sim Go.Sim.Bt
attribute [local congr] bdc cndc itec gdc gdSc gdUc

/-- All that stands in memory beside the probe. -/
structure Fix (W : Wd) (ds odd : List Bool) (c : Pc) (lv dv ov sv : Value) (cb : Nat) (s : St) : Prop where
  w : WdAt W ds s lv dv
  o : IsR s 1 ov (odd.map BC)
  cr : s.get cb = some (.row 6 [ccs c sv] false)
  l : IsR s 2 sv (c.ls.map V2)
  p : ∀ p ∈ c.ls, 0 ≤ p.2
theorem Fix.stp {W : Wd} {ds odd : List Bool} {c : Pc} {lv dv ov sv : Value} {cb : Nat} {s s' : St} {ks : List Nat} (h : Fix W ds odd c lv dv ov sv cb s) (k : StpK ks s s') (h1 : 1 ∉ ks) (h2 : 2 ∉ ks) (h5 : 5 ∉ ks) (h6 : 6 ∉ ks) : Fix W ds odd c lv dv ov sv cb s' :=
  ⟨h.w.stp k h5 h1, h.o.stp k h1, k.row h.cr h6, h.l.stp k h2, h.p⟩
theorem Fix.more {W : Wd} {ds odd : List Bool} {c : Pc} {lv dv ov sv : Value} {cb : Nat} {s s' : St} (h : Fix W ds odd c lv dv ov sv cb s) (k : More s s') (f : Fresh s) : Fix W ds odd c lv dv ov sv cb s' :=
  h.stp (ks := []) (.more k f) (by simp) (by simp) (by simp) (by simp)

theorem play_step {W : Wd} {ds odd : List Bool} {c : Pc} {lv dv ov sv : Value} {cb Q n : Nat} {m : Pm} {s : St} (h : Fix W ds odd c lv dv ov sv cb s) (f : Fresh s) (q : AtQ c m s Q) (I : InvP c m) {w : Int × Int} (hw : c.ls[m.at_]? = some w) (hn : n ≤ 2 * c.ls.length)
    (rec : List Value → St → Option Cut) :
    ∃ s', leapfroglaw19x_ProbeFinds.l11 std rec [ov, PU cb, PU Q, .int .i64 (n : Int), WV W lv dv, .agg ⟨c.me.cs⟩] s = rec [ov, PU cb, PU Q, .int .i64 ((n + 1 : Nat) : Int), WV W lv dv, .agg ⟨c.me.cs⟩] s' ∧
      Fix W ds odd c lv dv ov sv cb s' ∧ Fresh s' ∧ AtQ c (tellC c m (ansO W odd (if m.bes = true then m.x else c.me).id w.1 w.2)) s' Q := by
  have hlen := h.l.len
  rw [List.length_map] at hlen
  have hc := h.cr
  have hl := I.len
  have nx := next_v q I
  unfold nextC at nx
  rw [hw] at nx
  simp only at nx
  obtain ⟨s1, a1, a2, a3⟩ := answer_o (k := 1) (t := if m.bes = true then m.x else c.me) (a := ⟨1, w.1, w.2, zR, zR, 0, 0⟩) (r := zRes) h.w h.o f (h.p w (List.mem_of_getElem? hw))
  simp only at a1
  generalize ansO W odd (if m.bes = true then m.x else c.me).id w.1 w.2 = a at *
  generalize (if m.bes = true then m.x else c.me) = t at *
  obtain ⟨s2, t1, t2, t3, t4⟩ := tell_v (a := a) (q.stp (.more a2 f) (by decide : 15 ∉ ([] : List Nat)) (by decide) (by decide)) I a3
  have e1 : (n : Int) ≤ ((2 * c.ls.length : Nat) : Int) := by omega
  have e2 : IntKind.i64.wrap (2 * (c.ls.length : Int)) = ((2 * c.ls.length : Nat) : Int) := by rw [wrap64 (by omega) (by omega)]; omega
  have e5 : IntKind.i64.wrap ((n : Int) + 1) = ((n + 1 : Nat) : Int) := by rw [wrap64 (by omega) (by omega)]; omega
  refine ⟨s2, ?_, (h.more a2 f).stp t3 (by decide) (by decide) (by decide) (by decide), t4, t2⟩
  simp only [leapfroglaw19x_ProbeFinds.l11, leapfroglaw19x_ProbeFinds.l11.p1, sy, reduceIte, Nat.reduceAdd, Nat.reduceLeDiff, Nat.reduceLT, Nat.reduceEqDiff, Int.reduceEq, Int.reduceLT, Int.reduceLE, Int.reduceNe, ly, ldc_row hc, hlen, e2, e1, nx, a1, t1, e5]
theorem play_loop {W : Wd} {ds odd : List Bool} {c : Pc} {lv dv ov sv : Value} {cb Q : Nat} {s : St} (h : Fix W ds odd c lv dv ov sv cb s) (f : Fresh s) (q : AtQ c p0 s Q) (hl : c.ls.length ≤ 1024) :
    ∃ n s' x, n ≤ 2 * c.ls.length ∧ iter (leapfroglaw19x_ProbeFinds.l11 std) BIG [ov, PU cb, PU Q, .int .i64 ((0 : Nat) : Int), WV W lv dv, .agg ⟨c.me.cs⟩] s = some ((0, [ov, PU cb, PU Q, .int .i64 (n : Int), WV W lv dv, .agg ⟨c.me.cs⟩], s') : Cut) ∧
      Fix W ds odd c lv dv ov sv cb s' ∧ Fresh s' ∧ AtQ c ⟨c.ls.length, false, x, allB W odd c c.ls.length⟩ s' Q ∧ InvP c ⟨c.ls.length, false, x, allB W odd c c.ls.length⟩ := by
  refine iter_rel (fun d xs s' => ∃ m n, OnWay W odd c m ∧ InvP c m ∧ n ≤ wayN m ∧ wayN m + d ≥ 2 * c.ls.length + 1 ∧ Fix W ds odd c lv dv ov sv cb s' ∧ Fresh s' ∧ AtQ c m s' Q ∧ xs = [ov, PU cb, PU Q, .int .i64 ((n : Nat) : Int), WV W lv dv, .agg ⟨c.me.cs⟩])
    (fun y : Option Cut => ∃ n s' x, n ≤ 2 * c.ls.length ∧ y = some ((0, [ov, PU cb, PU Q, .int .i64 (n : Int), WV W lv dv, .agg ⟨c.me.cs⟩], s') : Cut) ∧
      Fix W ds odd c lv dv ov sv cb s' ∧ Fresh s' ∧ AtQ c ⟨c.ls.length, false, x, allB W odd c c.ls.length⟩ s' Q ∧ InvP c ⟨c.ls.length, false, x, allB W odd c c.ls.length⟩)
    ?_ BIG (2 * c.ls.length + 1) _ s (by unfold BIG; omega) ⟨p0, 0, ⟨by simp [p0, allB], fun e => by simp [p0] at e⟩, inv_p0 hl, by omega, by omega, h, f, q, rfl⟩
  rintro d xs s2 rec ⟨m, n, hO, I, hn, hd, hF, hf, hq, rfl⟩ ih
  have ha := I.a
  cases hw : c.ls[m.at_]? with
  | none =>
    have hat : m.at_ = c.ls.length := by
      have := List.getElem?_eq_none_iff.1 hw
      omega
    have hb : m.bes = false := by
      cases e : m.bes with
      | false => rfl
      | true => obtain ⟨w, g, _⟩ := hO.b e; rw [hw] at g; cases g
    have hn2 : n ≤ 2 * c.ls.length := by unfold wayN at hn; rw [hb, hat] at hn; simpa using hn
    have hm : m = ⟨c.ls.length, false, m.x, allB W odd c c.ls.length⟩ := by
      have h1 := hO.l
      rw [hat] at h1
      cases m
      simp only at hat hb h1
      subst hat hb h1
      rfl
    refine ⟨n, s2, m.x, hn2, ?_, hF, hf, hm ▸ hq, hm ▸ I⟩
    have hlen := hF.l.len
    rw [List.length_map] at hlen
    have hc := hF.cr
    have nx := next_v hq I
    unfold nextC at nx
    rw [hw] at nx
    simp only at nx
    have e1 : (n : Int) ≤ ((2 * c.ls.length : Nat) : Int) := by omega
    have e2 : IntKind.i64.wrap (2 * (c.ls.length : Int)) = ((2 * c.ls.length : Nat) : Int) := by rw [wrap64 (by omega) (by omega)]; omega
    simp only [leapfroglaw19x_ProbeFinds.l11, sy, reduceIte, Nat.reduceAdd, Nat.reduceLeDiff, Nat.reduceLT, Nat.reduceEqDiff, Int.reduceEq, Int.reduceLT, Int.reduceLE, Int.reduceNe, ly, ldc_row hc, hlen, e2, e1, nx]
  | some w =>
    have hlt : m.at_ < c.ls.length := (List.getElem?_eq_some_iff.1 hw).1
    have hwn : wayN m ≤ 2 * m.at_ + 1 := by unfold wayN; split <;> omega
    obtain ⟨s3, p1, p2, p3, p4⟩ := play_step (n := n) hF hf hq I hw (by omega) rec
    obtain ⟨g1, g2⟩ := onWay_tell hO hw
    rw [p1]
    exact ih (d - 1) _ s3 (by omega) ⟨_, n + 1, g1, inv_tell I _, by omega, by omega, p2, p3, p4, rfl⟩
end Go.Proofs.Ytogcfnhbacglfaa
