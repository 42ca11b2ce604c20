/-
  The reference's machine of package insert.
-/
import Derived.Test.YteafgjpbfhjbjaaGreatInsC
set_option linter.unusedSimpArgs false
set_option linter.unusedVariables false
set_option maxRecDepth 100000
set_option maxHeartbeats 2000000
namespace Go.Proofs.YteafgjpbfhjbjaaGreat
open Go.Sim Go.Sim.Bt
attribute [local congr] bdc cndc itec gdc gdSc gdUc
abbrev jrow (c : IC) (at' lv n : Int) (sp pp : Value) (on : Rf) (r : Res) : List Value :=
  [.int .i64 c.h, .int .i64 c.me.id, .int .i64 c.me.rk, .int .u64 c.me.n, .int .i64 c.me.ln, .int .u64 c.me.bt, .int .i64 c.st.id, .int .i64 c.st.rk, .int .u64 c.st.n, .int .i64 c.st.ln, .int .u64 c.st.bt, .int .i64 c.oa, .int .i64 c.oo,
   .int .i64 at', .int .i64 lv, .int .i64 n, sp, pp, .int .i64 on.id, .int .i64 on.rk, .int .u64 on.n, .int .i64 on.ln, .int .u64 on.bt,
   .int .i64 r.e, .int .u64 r.key, .slice none 0 0, .slice none 0 0, .int .i64 r.l.id, .int .i64 r.l.rk, .int .u64 r.l.n, .int .i64 r.l.ln, .int .u64 r.l.bt, .int .i64 r.r.id, .int .i64 r.r.rk, .int .u64 r.r.n, .int .i64 r.r.ln, .int .u64 r.r.bt, .bool r.found]
abbrev JRow (s : St) (p : Nat) (cs : List Value) : Prop := s.get p = some (.row 38 [cs] false)
def AtJ (c : IC) (s : St) (p d N : Nat) : IS → Prop
  | .seek cf ms n => ∃ pp on r wv ws, JRow s p (jrow c 1 0 n (P d) pp on r) ∧ AtR cf ms E0 s d wv ws ∧ ws.length ≤ N
  | .splice lv cf mp n => ∃ sp on r V mr, JRow s p (jrow c 2 lv n sp (P V) on r) ∧ Sp.RRow s V (Sp.rrow cf mr) ∧ Sp.RelM mp mr
  | .walk lv on n => ∃ sp pp r, JRow s p (jrow c 3 lv n sp pp on r)
  | .join => ∃ lv n sp pp on r, JRow s p (jrow c 4 lv n sp pp on r)
  | .over e => ∃ lv n sp pp on, JRow s p (jrow c 5 lv n sp pp on ⟨e, 0, zR, zR, false⟩)
open Classical in
theorem new_j {s : St} (f : Fresh s) (c : IC) (hb : 0 ≤ c.st.bt) (hm : 0 ≤ c.me.bt) :
    (¬ okI c ∧ ∃ s', r15New.v (.agg ⟨c.cs⟩) s = some (T2 (.pointer none) 150, s') ∧ More s s') ∨
    (okI c ∧ ∃ s' p d, r15New.v (.agg ⟨c.cs⟩) s = some (T2 (P p) 0, s') ∧ AtJ c s' p d 0 (.seek c.sk (m0 c.sk) 1) ∧ More s s') := by
  have hd := rhead_r c.h
  rcases rnew_r s c.sk hb with ⟨hC, e2⟩ | ⟨hC, e2⟩
  · exact .inl ⟨fun g => hC g.1, s, by simp only [r15New.v, r15New.t, r15New.t.p1, sy, reduceIte, Nat.reduceAdd, Nat.reduceLeDiff, Nat.reduceLT, Nat.reduceEqDiff, Int.reduceEq, Int.reduceLT, Int.reduceLE, Int.reduceNe, ly, e2], .refl _⟩
  · have mo : More s (s.new (.row 39 [rrow c.sk (m0 c.sk) (.slice none 0 0)] false)) := .new
    have rN : RRow (s.new (.row 39 [rrow c.sk (m0 c.sk) (.slice none 0 0)] false)) s.n (rrow c.sk (m0 c.sk) (.slice none 0 0)) := get_new_same
    generalize s.new (.row 39 [rrow c.sk (m0 c.sk) (.slice none 0 0)] false) = s2 at *
    have f2 := mo.fresh f
    have vr := rright_i c.me.ln c.me.bt hm s2
    have hd := hd s2
    rcases Classical.propComplete (c.me.rk = 2) with k1 | k1
    · by_cases k2 : okV c.me.ln c.me.bt
      · rw [decide_eq_true k2] at vr
        rcases Classical.propComplete (c.me.ln = c.h) with k3 | k3
        · by_cases k4 : okO c.oa c.oo
          · right
            have ok0 := c0_ok (of_eq_true k1) k2 k4
            have q1 := Sp.rnew_yes (c := ⟨0, 0, c.me, headR c.h, c.oa, c.oo⟩) f2 hm (Int.le_refl 0) ok0
            have m3 : More s2 (s2.new (.row 48 [Sp.rrow ⟨0, 0, c.me, headR c.h, c.oa, c.oo⟩ ⟨1, 0, (⟨0, 0, c.me, headR c.h, c.oa, c.oo⟩ : Sp.Cf).fr, zR, false, zR, false, zRes⟩] false)) := .new
            generalize s2.new (.row 48 [Sp.rrow ⟨0, 0, c.me, headR c.h, c.oa, c.oo⟩ ⟨1, 0, (⟨0, 0, c.me, headR c.h, c.oa, c.oo⟩ : Sp.Cf).fr, zR, false, zR, false, zRes⟩] false) = s3 at *
            have f3 := m3.fresh f2
            have m4 : More s3 (s3.new (.row 38 [jrow c 1 0 1 (P s.n) (.pointer none) zR zRes] false)) := .new
            have e4 : alv s3 (.agg ⟨jrow c 1 0 1 (P s.n) (.pointer none) zR zRes⟩) = some (P s3.n, s3.new (.row 38 [jrow c 1 0 1 (P s.n) (.pointer none) zR zRes] false)) := rfl
            have r4 : JRow (s3.new (.row 38 [jrow c 1 0 1 (P s.n) (.pointer none) zR zRes] false)) s3.n (jrow c 1 0 1 (P s.n) (.pointer none) zR zRes) := get_new_same
            generalize s3.new (.row 38 [jrow c 1 0 1 (P s.n) (.pointer none) zR zRes] false) = s4 at *
            have f4 := m4.fresh f3
            have rN4 : RRow s4 s.n (rrow c.sk (m0 c.sk) (.slice none 0 0)) := m4.get f3 (m3.get f2 rN)
            have hR : AtR c.sk (m0 c.sk) E0 s4 s.n (.slice none 0 0) [] := ⟨rN4, .inl ⟨rfl, rfl⟩, rfl, more_E0 f4, by simp, Nat.zero_le _⟩
            refine ⟨⟨hC, of_eq_true k1, k2, of_eq_true k3, k4⟩, s4, s3.n, s.n, ?_, ⟨_, _, _, _, [], r4, hR, Nat.le_refl _⟩, (mo.trans m3).trans m4⟩
            simp only [Sp.Cf.cs, headR] at q1 hd
            simp only [jrow] at e4
            simp only [r15New.v, r15New.t, r15New.t.p1, sy, reduceIte, Nat.reduceAdd, Nat.reduceLeDiff, Nat.reduceLT, Nat.reduceEqDiff, Int.reduceEq, Int.reduceLT, Int.reduceLE, Int.reduceNe, ly, e2, k1, vr, k3, hd, q1, e4]
          · left
            have q1 := (Sp.new_no (c := ⟨0, 0, c.me, headR c.h, c.oa, c.oo⟩) f2 hm (Int.le_refl 0) fun g => k4 g.2.2.2.2).2
            refine ⟨fun g => k4 g.2.2.2.2, s2, ?_, mo⟩
            simp only [Sp.Cf.cs, headR, Sp.Bad] at q1 hd
            simp only [r15New.v, r15New.t, r15New.t.p1, sy, reduceIte, Nat.reduceAdd, Nat.reduceLeDiff, Nat.reduceLT, Nat.reduceEqDiff, Int.reduceEq, Int.reduceLT, Int.reduceLE, Int.reduceNe, ly, e2, k1, vr, k3, hd, q1]
        · exact .inl ⟨fun g => of_eq_false k3 g.2.2.2.1, s2, by simp only [r15New.v, r15New.t, r15New.t.p1, sy, reduceIte, Nat.reduceAdd, Nat.reduceLeDiff, Nat.reduceLT, Nat.reduceEqDiff, Int.reduceEq, Int.reduceLT, Int.reduceLE, Int.reduceNe, ly, e2, k1, vr, k3], mo⟩
      · rw [decide_eq_false k2] at vr
        exact .inl ⟨fun g => k2 g.2.2.1, s2, by simp only [r15New.v, r15New.t, r15New.t.p1, sy, reduceIte, Nat.reduceAdd, Nat.reduceLeDiff, Nat.reduceLT, Nat.reduceEqDiff, Int.reduceEq, Int.reduceLT, Int.reduceLE, Int.reduceNe, ly, e2, k1, vr], mo⟩
    · exact .inl ⟨fun g => of_eq_false k1 g.2.1, s2, by simp only [r15New.v, r15New.t, r15New.t.p1, sy, reduceIte, Nat.reduceAdd, Nat.reduceLeDiff, Nat.reduceLT, Nat.reduceEqDiff, Int.reduceEq, Int.reduceLT, Int.reduceLE, Int.reduceNe, ly, e2, k1], mo⟩
end Go.Proofs.YteafgjpbfhjbjaaGreat
