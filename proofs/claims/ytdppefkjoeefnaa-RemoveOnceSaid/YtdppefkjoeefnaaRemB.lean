/-
  The machine of package remove in memory.
-/
import Derived.Test.YtdppefkjoeefnaaRemA
set_option linter.unusedSimpArgs false
set_option linter.unusedVariables false
set_option maxRecDepth 100000
set_option maxHeartbeats 2000000
namespace Go.Proofs.Ytdppefkjoeefnaa
open Go.Sim Go.Sim.Bt
attribute [local congr] bdc cndc itec gdc gdSc gdUc

abbrev tS (b : Nat) : Value := .iface 77 (P b)
abbrev tU (b : Nat) : Value := .iface 107 (P b)
abbrev pmrow (c : RC) (pl : Value) (x : Rf) (lv : Int) (mk ov : Bool) (e : Int) : List Value :=
  [.int .i64 c.h, .int .i64 c.st.id, .int .i64 c.st.rk, .int .u64 c.st.n, .int .i64 c.st.ln, .int .u64 c.st.bt, .int .u64 c.key, .int .i64 c.oa, .int .i64 c.oo, pl,
   .int .i64 x.id, .int .i64 x.rk, .int .u64 x.n, .int .i64 x.ln, .int .u64 x.bt, .int .i64 lv, .bool mk, .bool ov, .int .i64 e, .bool true]
abbrev PRow (s : St) (p : Nat) (cs : List Value) : Prop := s.get p = some (.row 20 [cs] false)
abbrev PPut (s : St) (p : Nat) (cs : List Value) : St := s.put p (.row 20 [cs] false)
theorem put_p {s : St} {p : Nat} {X Y : List Value} (h : PRow s p X) : PRow (PPut s p Y) p Y := get_put_same h
/-- The machine in memory. -/
def AtP (c : RC) (s : St) (p b q U : Nat) : RS → Prop
  | .seek ms => PRow s p (pmrow c (tS b) zR (-1) false false 0) ∧ At c.sk ms s b q
  | .ask x => PRow s p (pmrow c .nilIface x (-1) false false 0)
  | .leave x lv mu => PRow s p (pmrow c (tU U) x lv true false 0) ∧ Un.Row s U (Un.urow (cuC c x lv) mu)
  | .over mk e => ∃ pl x lv, PRow s p (pmrow c pl x lv mk true e)
abbrev Bp (p U : Nat) : Nat → Nat → Prop := fun y k => (k = 20 ∧ y = p) ∨ (k = 22 ∧ y = U) ∨ k = 40 ∨ k = 1000
abbrev B0 (p : Nat) : Nat → Nat → Prop := fun y k => k = 20 ∧ y = p
theorem bx_if {t : Nat} {v : Value} : bx (.iface t v) = some [.iface t v] := id rfl
theorem bx_ni : bx Value.nilIface = some [.nilIface] := id rfl
theorem eqI_if {t : Nat} {v : Value} : eqI true (.iface t v) .nilIface = some (.bool true) := id rfl
theorem eqI_ni : eqI true .nilIface .nilIface = some (.bool false) := id rfl
theorem ends_r {s : St} {p : Nat} {c : RC} {pl : Value} {x : Rf} {lv : Int} {mk ov : Bool} {e0 : Int} (h : PRow s p (pmrow c pl x lv mk ov e0)) (e : Int) :
    remove_Remove_ends.v (P p) (.int .i64 e) s = some (unit', PPut s p (pmrow c pl x lv mk true e)) := by
  obtain ⟨s1, hs1⟩ : ∃ s1, s1 = PPut s p (pmrow c pl x lv mk true e0) := ⟨_, rfl⟩
  have e1 : stv s 1 (.pointer (some ⟨p, 0, some 17⟩)) (.bool true) = some s1 := by rw [hs1]; simp only [stv_row h, sy, reduceIte, Nat.reduceAdd, Nat.reduceLeDiff, Nat.reduceLT, Nat.reduceEqDiff, Int.reduceEq, Int.reduceLT, Int.reduceLE, Int.reduceNe, ly]
  have r1 : PRow s1 p (pmrow c pl x lv mk true e0) := by rw [hs1]; exact put_p h
  have e2 : stv s1 1 (.pointer (some ⟨p, 0, some 18⟩)) (.int .i64 e) = some (PPut s p (pmrow c pl x lv mk true e)) := by
    simp only [stv_row r1, sy, reduceIte, Nat.reduceAdd, Nat.reduceLeDiff, Nat.reduceLT, Nat.reduceEqDiff, Int.reduceEq, Int.reduceLT, Int.reduceLE, Int.reduceNe, ly]
    rw [hs1, put_put]
  simp only [remove_Remove_ends.v, remove_Remove_ends.t, sy, reduceIte, Nat.reduceAdd, Nat.reduceLeDiff, Nat.reduceLT, Nat.reduceEqDiff, Int.reduceEq, Int.reduceLT, Int.reduceLE, Int.reduceNe, ly, e1, e2]
theorem over_at {s : St} {p b q U : Nat} {c : RC} {pl : Value} {x : Rf} {lv : Int} {mk ov : Bool} {e0 e : Int} (h : PRow s p (pmrow c pl x lv mk ov e0)) : AtP c (PPut s p (pmrow c pl x lv mk true e)) p b q U (.over mk e) ∧ StpX (B0 p) s (PPut s p (pmrow c pl x lv mk true e)) :=
  ⟨⟨pl, x, lv, put_p h⟩, .put h ⟨rfl, rfl⟩⟩
theorem same2v (a b : Int) : sameV (.agg ⟨[.int .i64 a, .int .u64 b]⟩) (.agg ⟨[.int .i64 a, .int .u64 b]⟩) = true := by simp [sameV, sameVs]
theorem same2o (a b : Int) : sameV (.agg ⟨[.int .i64 a, .int .i64 b]⟩) (.agg ⟨[.int .i64 a, .int .i64 b]⟩) = true := by simp [sameV, sameVs]
/-- The list of so many bits is left. -/
theorem leaves_r {s : St} {p b q : Nat} {c : RC} {pl : Value} {x : Rf} {l0 : Int} (f : Fresh s) (hO : okO c.oa c.oo) (hb : 0 ≤ x.bt) (h : PRow s p (pmrow c pl x l0 true false 0)) (i : Int) (lv : Nat) (hi : okV x.ln x.bt → i = lv ∧ (lv : Int) ≤ x.ln) :
    ∃ s', remove_Remove_leaves.v (P p) (.int .i64 i) s = some (unit', s') ∧ AtP c s' p b q s.n (leaveS x lv) ∧ StpX (B0 p) s s' := by
  have sm := same5 x
  have so := same2o c.oa c.oo
  unfold leaveS
  by_cases k1 : okV x.ln x.bt
  · obtain ⟨rfl, h3⟩ := hi k1
    obtain ⟨n, d, e1, e2, g1, g2⟩ := id k1
    have hlv : lv ≤ n := by omega
    have pf := Prefix_ok s g1 g2 hlv
    have hcu : ((x.bt.toNat / 2 ^ (x.ln.toNat - lv) : Nat) : Int) = ((d / 2 ^ (n - lv) : Nat) : Int) := by rw [e1, e2]; rfl
    have pf : vec_Prefix.r (.agg ⟨[.int .i64 x.ln, .int .u64 x.bt]⟩) (.int .i64 (lv : Int)) s = some (T2 (.agg ⟨[.int .i64 (lv : Int), .int .u64 ((x.bt.toNat / 2 ^ (x.ln.toNat - lv) : Nat) : Int)]⟩) 0) := by
      rw [hcu, e1, e2]; exact pf
    by_cases k2 : x.rk = 2
    · have ok := ok_cu (c := c) hO k2 k1 h3
      rw [if_pos ⟨k2, k1⟩]
      rcases Un.new_r (s := s) f (cuC c x lv) hb (Int.natCast_nonneg _) with ⟨_, _, no⟩ | ⟨q1, _, _⟩
      · exact absurd ok no
      · have f2 : Fresh (s.new (.row 22 [Un.urow (cuC c x lv) Un.m0] false)) := f.new
        have m2 : More s (s.new (.row 22 [Un.urow (cuC c x lv) Un.m0] false)) := .new
        have u2 : Un.Row (s.new (.row 22 [Un.urow (cuC c x lv) Un.m0] false)) s.n (Un.urow (cuC c x lv) Un.m0) := get_new_same
        generalize s.new (.row 22 [Un.urow (cuC c x lv) Un.m0] false) = s2 at *
        have r2 : PRow s2 p (pmrow c pl x l0 true false 0) := m2.get f h
        obtain ⟨s3, hs3⟩ : ∃ s3, s3 = PPut s2 p (pmrow c pl x lv true false 0) := ⟨_, rfl⟩
        have e3 : stv s2 1 (.pointer (some ⟨p, 0, some 15⟩)) (.int .i64 (lv : Int)) = some s3 := by rw [hs3]; simp only [stv_row r2, sy, reduceIte, Nat.reduceAdd, Nat.reduceLeDiff, Nat.reduceLT, Nat.reduceEqDiff, Int.reduceEq, Int.reduceLT, Int.reduceLE, Int.reduceNe, ly]
        have r3 : PRow s3 p (pmrow c pl x lv true false 0) := by rw [hs3]; exact put_p r2
        have e4 : stv s3 1 (.pointer (some ⟨p, 0, some 9⟩)) (tU s.n) = some (PPut s2 p (pmrow c (tU s.n) x lv true false 0)) := by
          simp only [stv_row r3, bx_if, sy, reduceIte, Nat.reduceAdd, Nat.reduceLeDiff, Nat.reduceLT, Nat.reduceEqDiff, Int.reduceEq, Int.reduceLT, Int.reduceLE, Int.reduceNe, ly]
          rw [hs3, put_put]
        have k4 : StpX (B0 p) s2 (PPut s2 p (pmrow c (tU s.n) x lv true false 0)) := .put r2 ⟨rfl, rfl⟩
        refine ⟨_, ?_, ⟨put_p r2, k4.2.1 _ _ u2 (by simp [kd])⟩, (StpX.more m2 f).trans k4⟩
        simp only [cuC, Un.Cf.cs] at q1
        simp only [remove_Remove_leaves.v, remove_Remove_leaves.t, sy, reduceIte, Nat.reduceAdd, Nat.reduceLeDiff, Nat.reduceLT, Nat.reduceEqDiff, Int.reduceEq, Int.reduceLT, Int.reduceLE, Int.reduceNe, ly, lda_row h, pf, q1, lda_row r2, sm, so, e3, e4]
    · rw [if_neg (fun g => k2 g.1)]
      rcases Un.new_r (s := s) f (cuC c x lv) hb (Int.natCast_nonneg _) with ⟨q1, _, _⟩ | ⟨_, _, ok⟩
      · have en := ends_r h 0
        obtain ⟨g3, g4⟩ := over_at (b := b) (q := q) (U := s.n) (e := 0) h
        refine ⟨_, ?_, g3, g4⟩
        simp only [cuC, Un.Cf.cs] at q1
        simp only [remove_Remove_leaves.v, remove_Remove_leaves.t, sy, reduceIte, Nat.reduceAdd, Nat.reduceLeDiff, Nat.reduceLT, Nat.reduceEqDiff, Int.reduceEq, Int.reduceLT, Int.reduceLE, Int.reduceNe, ly, lda_row h, pf, q1, sm, so, en]
      · exact absurd ok.1 k2
  · rw [if_neg (fun g => k1 g.2)]
    have pf : vec_Prefix.r (.agg ⟨[.int .i64 x.ln, .int .u64 x.bt]⟩) (.int .i64 i) s = some (T2 (.agg ⟨[.int .i64 0, .int .u64 0]⟩) 10) := Prefix_no s k1 hb
    rcases Un.new_r (s := s) f ⟨0, 0, x, c.oa, c.oo⟩ hb (Int.le_refl 0) with ⟨q1, _, _⟩ | ⟨_, _, ok⟩
    · have en := ends_r h 0
      obtain ⟨g3, g4⟩ := over_at (b := b) (q := q) (U := s.n) (e := 0) h
      refine ⟨_, ?_, g3, g4⟩
      simp only [Un.Cf.cs] at q1
      simp only [remove_Remove_leaves.v, remove_Remove_leaves.t, sy, reduceIte, Nat.reduceAdd, Nat.reduceLeDiff, Nat.reduceLT, Nat.reduceEqDiff, Int.reduceEq, Int.reduceLT, Int.reduceLE, Int.reduceNe, ly, lda_row h, pf, q1, sm, so, en]
    · exact absurd ok.2.1 k1

/-! ### What it plays -/

theorem nx_s (b : Nat) (s : St) : callI Try.prog (remove_Remove_Next.ctx) "Next" (tS b) [] s = (seek_Seek_Next.w [P b] s).map fun r => (r, s) := by kernel_rfl
theorem nx_u (b : Nat) (s : St) : callI Try.prog (remove_Remove_Next.ctx) "Next" (tU b) [] s = (unsplice_Unsplice_Next.w [P b] s).map fun r => (r, s) := by kernel_rfl
theorem ns_s (b : Nat) (s : St) : callI Try.prog (remove_Remove_settles.ctx) "Next" (tS b) [] s = (seek_Seek_Next.w [P b] s).map fun r => (r, s) := by kernel_rfl
theorem ns_u (b : Nat) (s : St) : callI Try.prog (remove_Remove_settles.ctx) "Next" (tU b) [] s = (unsplice_Unsplice_Next.w [P b] s).map fun r => (r, s) := by kernel_rfl
theorem te_s (b : Nat) (a : Value) (s : St) : callI Try.prog (remove_Remove_Tell.ctx) "Tell" (tS b) [a] s = seek_Seek_Tell.w [P b, a] s := by kernel_rfl
theorem te_u (b : Nat) (a : Value) (s : St) : callI Try.prog (remove_Remove_Tell.ctx) "Tell" (tU b) [a] s = unsplice_Unsplice_Tell.w [P b, a] s := by kernel_rfl
theorem wa_s (b : Nat) (s : St) : callI Try.prog (remove_Remove_Wake.ctx) "Wake" (tS b) [] s = (seek_Seek_Wake.w [P b] s).map fun r => (r, s) := by kernel_rfl
theorem wa_u (b : Nat) (s : St) : callI Try.prog (remove_Remove_Wake.ctx) "Wake" (tU b) [] s = unsplice_Unsplice_Wake.w [P b] s := by kernel_rfl
end Go.Proofs.Ytdppefkjoeefnaa
