/-
  The machine of package read over the search: the heap, end, fail, sought.
-/
import Derived.Test.YtjiknclbjbfdjaaGreatSekC
import Derived.Test.YtjiknclbjbfdjaaGreatMachV
set_option linter.unusedSimpArgs false
set_option linter.unusedVariables false
set_option maxRecDepth 100000
set_option maxHeartbeats 2000000
namespace Go.Proofs.YtjiknclbjbfdjaaGreat
open Go.Sim Go.Sim.Bt
attribute [local congr] bdc cndc itec gdc gdSc gdUc

structure RC where
  h : Int
  st : Rf
  key : Int
  ceil : Bool
abbrev RC.cs (c : RC) : List Value := [.int .i64 c.h, .int .i64 c.st.id, .int .i64 c.st.rk, .int .u64 c.st.n, .int .i64 c.st.ln, .int .u64 c.st.bt, .int .u64 c.key, .bool c.ceil]
abbrev RC.sk (c : RC) : Cf := ⟨c.h, c.st, 2, c.key⟩
structure RM where
  at' : Int
  x : Rf
  tries : Int
  res : RV
abbrev RV.cs (r : RV) : List Value := [.int .i64 r.e, .int .u64 r.key, r.v, .slice none 0 0, .int .i64 r.l.id, .int .i64 r.l.rk, .int .u64 r.l.n, .int .i64 r.l.ln, .int .u64 r.l.bt, .int .i64 r.r.id, .int .i64 r.r.rk, .int .u64 r.r.n, .int .i64 r.r.ln, .int .u64 r.r.bt, .bool r.found]
abbrev ceilV (qc : Nat) : Value := .func (.func 18) ⟨[]⟩ ⟨[P qc]⟩
abbrev drow (c : RC) (m : RM) (b qc : Nat) : List Value :=
  [.int .i64 c.h, .int .i64 c.st.id, .int .i64 c.st.rk, .int .u64 c.st.n, .int .i64 c.st.ln, .int .u64 c.st.bt, .int .u64 c.key, .bool c.ceil, .int .i64 m.at', P b, .int .i64 m.x.id, .int .i64 m.x.rk, .int .u64 m.x.n, .int .i64 m.x.ln, .int .u64 m.x.bt, .int .i64 m.tries, ceilV qc,
   .int .i64 m.res.e, .int .u64 m.res.key, m.res.v, .slice none 0 0, .int .i64 m.res.l.id, .int .i64 m.res.l.rk, .int .u64 m.res.l.n, .int .i64 m.res.l.ln, .int .u64 m.res.l.bt, .int .i64 m.res.r.id, .int .i64 m.res.r.rk, .int .u64 m.res.r.n, .int .i64 m.res.r.ln, .int .u64 m.res.r.bt, .bool m.res.found]
abbrev DRow (s : St) (p : Nat) (cs : List Value) : Prop := s.get p = some (.row 32 [cs] false)
abbrev DPut (s : St) (p : Nat) (cs : List Value) : St := s.put p (.row 32 [cs] false)
abbrev zRV : RV := ⟨0, 0, .slice none 0 0, zR, zR, false⟩
def failM (m : RM) (e : Int) : RM := { m with at' := 4, res := { zRV with e := e } }
theorem rd_end {s : St} {p b qc : Nat} {c : RC} {m : RM} (h : DRow s p (drow c m b qc)) (r : RV) (hv : bx r.v = some [r.v]) : read_Read_end.v (P p) (.agg ⟨r.cs⟩) s = some (unit', DPut s p (drow c { m with at' := 4, res := r } b qc)) := by
  simp only [read_Read_end.v, read_Read_end.t, sy, reduceIte, Nat.reduceAdd, Nat.reduceLeDiff, Nat.reduceLT, Nat.reduceEqDiff, Int.reduceEq, Int.reduceLT, Int.reduceLE, Int.reduceNe, ly, stv_row h, stv_put h]
theorem rd_fail {s : St} {p b qc : Nat} {c : RC} {m : RM} (h : DRow s p (drow c m b qc)) (e : Int) : read_Read_fail.v (P p) (.int .i64 e) s = some (unit', DPut s p (drow c (failM m e) b qc)) := by
  have e1 := rd_end h { zRV with e := e } rfl
  simp only [read_Read_fail.v, read_Read_fail.t, sy, reduceIte, Nat.reduceAdd, Nat.reduceLeDiff, Nat.reduceLT, Nat.reduceEqDiff, Int.reduceEq, Int.reduceLT, Int.reduceLE, Int.reduceNe, ly] at e1 ⊢
  simp only [e1, sy, reduceIte, Nat.reduceAdd, Nat.reduceLeDiff, Nat.reduceLT, Nat.reduceEqDiff, Int.reduceEq, Int.reduceLT, Int.reduceLE, Int.reduceNe, failM]
/-- What the end of the search makes of it. -/
def soughtM (c : RC) (m : RM) (ms : Mm) : RM :=
  if ms.ov = true then
    let y : RM := { m with x := ms.res.r }
    if ms.res.e ≠ 0 then failM y ms.res.e
    else if ms.res.found = true ∨ (c.ceil = true ∧ ms.res.r.rk ≠ 3) then { y with at' := 2 }
    else failM y 101
  else m
theorem put_d {s : St} {p : Nat} {X Y : List Value} (h : DRow s p X) : DRow (DPut s p Y) p Y := get_put_same h
theorem rd_sought {s : St} {p b q qc : Nat} {c : RC} {m : RM} {ms : Mm} (h : DRow s p (drow c m b qc)) (hA : At c.sk ms s b q) : ∃ s', read_Read_sought.v (P p) s = some (unit', s') ∧ (s' = s ∧ soughtM c m ms = m ∨ s' = DPut s p (drow c (soughtM c m ms) b qc)) := by
  have n1 := next_r hA
  cases ho : ms.ov with
  | false =>
    rw [show nextC ms = stepC 1 (if ms.lk = true then ms.to else ms.ap) ⟨1, ms.wl, ms.wb, zR, zR, 0, 0⟩ zRes by simp [nextC, ho]] at n1
    generalize (if ms.lk = true then ms.to else ms.ap) = t at n1
    exact ⟨s, by simp only [read_Read_sought.v, read_Read_sought.t, sy, reduceIte, Nat.reduceAdd, Nat.reduceLeDiff, Nat.reduceLT, Nat.reduceEqDiff, Int.reduceEq, Int.reduceLT, Int.reduceLE, Int.reduceNe, ly, ldc_row h, n1, stepC], .inl ⟨rfl, by simp [soughtM, ho]⟩⟩
  | true =>
    rw [show nextC ms = stepC 3 zR zAsk ms.res by simp [nextC, ho]] at n1
    obtain ⟨s1, hs1⟩ : ∃ s1, s1 = DPut s p (drow c { m with x := ms.res.r } b qc) := ⟨_, rfl⟩
    have e1 : stv s 5 (.pointer (some ⟨p, 0, some 10⟩)) (.agg ⟨ms.res.r.cs⟩) = some s1 := by
      rw [hs1]; simp only [stv_row h, sy, reduceIte, Nat.reduceAdd, Nat.reduceLeDiff, Nat.reduceLT, Nat.reduceEqDiff, Int.reduceEq, Int.reduceLT, Int.reduceLE, Int.reduceNe, ly]
    have h1 : DRow s1 p (drow c { m with x := ms.res.r } b qc) := by rw [hs1]; exact put_d h
    have f1 := rd_fail h1 ms.res.e
    have f2 := rd_fail h1 101
    have pp : ∀ Y, DPut s1 p Y = DPut s p Y := fun Y => by rw [hs1]; exact put_put
    rw [pp] at f1 f2
    rcases Classical.propComplete (ms.res.e = 0) with k0 | k0
    · cases k1 : ms.res.found with
      | true =>
        refine ⟨DPut s p (drow c { m with x := ms.res.r, at' := 2 } b qc), ?_, .inr (by rw [show soughtM c m ms = { m with x := ms.res.r, at' := 2 } by simp [soughtM, ho, of_eq_true k0, k1]])⟩
        rw [← pp]
        simp only [read_Read_sought.v, read_Read_sought.t, sy, reduceIte, Nat.reduceAdd, Nat.reduceLeDiff, Nat.reduceLT, Nat.reduceEqDiff, Int.reduceEq, Int.reduceLT, Int.reduceLE, Int.reduceNe, ly, ldc_row h, n1, stepC, e1, k0, k1, stv_row h1]
      | false =>
        cases k2 : c.ceil with
        | true =>
          rcases Classical.propComplete (ms.res.r.rk = 3) with k3 | k3
          · refine ⟨_, ?_, .inr (by rw [show soughtM c m ms = failM { m with x := ms.res.r } 101 by simp [soughtM, ho, of_eq_true k0, k1, k2, of_eq_true k3]])⟩
            simp only [read_Read_sought.v, read_Read_sought.t, sy, reduceIte, Nat.reduceAdd, Nat.reduceLeDiff, Nat.reduceLT, Nat.reduceEqDiff, Int.reduceEq, Int.reduceLT, Int.reduceLE, Int.reduceNe, ly, ldc_row h, n1, stepC, e1, k0, k1, ldc_row h1, k2, k3, f2]
          · refine ⟨DPut s p (drow c { m with x := ms.res.r, at' := 2 } b qc), ?_, .inr (by rw [show soughtM c m ms = { m with x := ms.res.r, at' := 2 } by simp [soughtM, ho, of_eq_true k0, k1, k2, of_eq_false k3]])⟩
            rw [← pp]
            simp only [read_Read_sought.v, read_Read_sought.t, sy, reduceIte, Nat.reduceAdd, Nat.reduceLeDiff, Nat.reduceLT, Nat.reduceEqDiff, Int.reduceEq, Int.reduceLT, Int.reduceLE, Int.reduceNe, ly, ldc_row h, n1, stepC, e1, k0, k1, ldc_row h1, k2, k3, stv_row h1]
            simp only [DPut, drow, k2]
        | false =>
          refine ⟨_, ?_, .inr (by rw [show soughtM c m ms = failM { m with x := ms.res.r } 101 by simp [soughtM, ho, of_eq_true k0, k1, k2]])⟩
          simp only [read_Read_sought.v, read_Read_sought.t, sy, reduceIte, Nat.reduceAdd, Nat.reduceLeDiff, Nat.reduceLT, Nat.reduceEqDiff, Int.reduceEq, Int.reduceLT, Int.reduceLE, Int.reduceNe, ly, ldc_row h, n1, stepC, e1, k0, k1, ldc_row h1, k2, f2]
    · refine ⟨_, ?_, .inr (by rw [show soughtM c m ms = failM { m with x := ms.res.r } ms.res.e by simp [soughtM, ho, of_eq_false k0]])⟩
      cases k1 : ms.res.found <;> cases k2 : c.ceil <;> rcases Classical.propComplete (ms.res.r.rk = 3) with k3 | k3 <;>
        simp only [read_Read_sought.v, read_Read_sought.t, sy, reduceIte, Nat.reduceAdd, Nat.reduceLeDiff, Nat.reduceLT, Nat.reduceEqDiff, Int.reduceEq, Int.reduceLT, Int.reduceLE, Int.reduceNe, ly, ldc_row h, n1, stepC, e1, k0, k1, ldc_row h1, k2, k3, f1]
end Go.Proofs.YtjiknclbjbfdjaaGreat
