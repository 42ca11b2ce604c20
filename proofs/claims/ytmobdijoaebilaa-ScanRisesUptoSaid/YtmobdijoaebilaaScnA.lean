/-
  The machine of package scan: what each part makes of it.
-/
import Derived.Test.YtmobdijoaebilaaMachO
set_option linter.unusedSimpArgs false
set_option linter.unusedVariables false
set_option maxRecDepth 100000
set_option maxHeartbeats 2000000
namespace Go.Proofs.Ytmobdijoaebilaa
open Go.Sim Go.Sim.Bt
attribute [local congr] bdc cndc itec gdc gdSc gdUc

structure SC where
  h : Int
  st : Rf
  low : Int
  high : Int
structure Sc where
  fr : Int
  fn : Int
  hs : Bool
  sr : Int
  sn : Int
  x : Rf
  so : Bool
  w : Bool
  its : List It
  tr : Int
  ov : Bool
  e : Int
  ri : List It
  ms : Mm
abbrev SC.cs (c : SC) : List Value := [.int .i64 c.h, .int .i64 c.st.id, .int .i64 c.st.rk, .int .u64 c.st.n, .int .i64 c.st.ln, .int .u64 c.st.bt, .int .u64 c.low, .int .u64 c.high]
abbrev SC.sk (c : SC) (r n : Int) : Cf := ⟨c.h, c.st, r, n⟩
abbrev nilV : Value := .slice none 0 0
abbrev nilP : Value := .pointer none
abbrev resI (e : Int) (w : Value) : List Value := [.int .i64 e, .int .u64 0, nilV, w, .int .i64 0, .int .i64 0, .int .u64 0, .int .i64 0, .int .u64 0, .int .i64 0, .int .i64 0, .int .u64 0, .int .i64 0, .int .u64 0, .bool false]
abbrev srow (c : SC) (m : Sc) (sp iv riv : Value) : List Value :=
  [.int .i64 c.h, .int .i64 c.st.id, .int .i64 c.st.rk, .int .u64 c.st.n, .int .i64 c.st.ln, .int .u64 c.st.bt, .int .u64 c.low, .int .u64 c.high, .int .i64 m.fr, .int .u64 m.fn, sp, .int .i64 m.x.id, .int .i64 m.x.rk, .int .u64 m.x.n, .int .i64 m.x.ln, .int .u64 m.x.bt, .bool m.so, .bool m.w, iv, .int .i64 m.tr, .bool m.ov,
   .int .i64 m.e, .int .u64 0, nilV, riv, .int .i64 0, .int .i64 0, .int .u64 0, .int .i64 0, .int .u64 0, .int .i64 0, .int .i64 0, .int .u64 0, .int .i64 0, .int .u64 0, .bool false, .bool true]
abbrev SRow (s : St) (p : Nat) (cs : List Value) : Prop := s.get p = some (.row 37 [cs] false)
abbrev SPut (s : St) (p : Nat) (cs : List Value) : St := s.put p (.row 37 [cs] false)
theorem put_s {s : St} {p : Nat} {X Y : List Value} (h : SRow s p X) : SRow (SPut s p Y) p Y := get_put_same h
def endsS (m : Sc) (e : Int) (l : List It) : Sc := { m with ov := true, e := e, ri := l }
def takesS (c : SC) (m : Sc) (x : Rf) (so : Bool) : Sc :=
  if lessK 2 c.high x.rk x.n then endsS { m with x := x, so := so, hs := so && m.hs } 0 m.its else { m with x := x, so := so, hs := so && m.hs }
def foundS (c : SC) (m : Sc) : Sc := if m.ms.ov = false then m else if m.ms.res.e ≠ 0 then endsS m m.ms.res.e [] else takesS c m m.ms.res.r true
def againS (c : SC) (m : Sc) : Sc := if 64 ≤ m.tr then endsS m 121 [] else { m with tr := m.tr + 1, hs := true, sr := m.fr, sn := m.fn, ms := m0 (c.sk m.fr m.fn), so := false }
def nextR (n : Int) : Int := if n = 18446744073709551615 then 3 else 2
def nextN (n : Int) : Int := if n = 18446744073709551615 then 0 else IntKind.u64.wrap (n + 1)
def has1 (m : Sc) (a : Ans) (v : List (List Value)) : Sc := { (if a.f = false then { m with its := m.its ++ [⟨m.x.n, v⟩] } else m) with fr := nextR m.x.n, fn := nextN m.x.n }
def hasS (c : SC) (m : Sc) (a : Ans) (v : List (List Value)) : Sc :=
  if a.f = false ∧ 64 ≤ m.its.length then endsS m 102 []
  else if lessK m.x.rk m.x.n a.r.rk a.r.n then takesS c (has1 m a v) a.r false else againS c (has1 m a v)
def gotS (c : SC) (m : Sc) (a : Ans) (v : List (List Value)) : Sc :=
  if a.k = 1 then hasS c m a v else if a.k = 3 ∧ m.so = true then foundS c { m with ms := deadF m.ms a, so := false } else { m with w := true }
def tellS (c : SC) (m : Sc) (a : Ans) (v : List (List Value)) (x : Option Rf) : Sc :=
  if m.ov = true ∨ m.w = true then m else if m.hs = true ∧ m.so = false then foundS c { m with ms := tellF (c.sk m.sr m.sn) m.ms a x } else gotS c m a v
def wakeS (c : SC) (m : Sc) : Sc := if m.ov = false ∧ m.w = true then againS c { m with w := false } else m
theorem ends_s {s : St} {p : Nat} {c : SC} {m : Sc} {sp iv riv : Value} (h : SRow s p (srow c m sp iv riv)) (e : Int) (l : List It) {w : Value} (hw : bx w = some [w]) :
    scan_Scan_ends.v (P p) (.agg ⟨resI e w⟩) s = some (unit', SPut s p (srow c (endsS m e l) sp iv w)) := by
  simp only [scan_Scan_ends.v, scan_Scan_ends.t, sy, reduceIte, Nat.reduceAdd, Nat.reduceLeDiff, Nat.reduceLT, Nat.reduceEqDiff, Int.reduceEq, Int.reduceLT, Int.reduceLE, Int.reduceNe, ly, stv_row h, stv_put h, endsS]
theorem takes_s {s : St} {p : Nat} {c : SC} {m : Sc} {sp iv riv : Value} (h : SRow s p (srow c m sp iv riv)) (hi : bx iv = some [iv]) (x : Rf) (so : Bool) :
    scan_Scan_takes.v (P p) (.agg ⟨x.cs⟩) (.bool so) s = some (unit', SPut s p (srow c (takesS c m x so) (if so = true then sp else nilP) iv (if lessK 2 c.high x.rk x.n then iv else riv))) := by
  have h1 : SRow (SPut s p (srow c { m with x := x, so := so } (if so = true then sp else nilP) iv riv)) p (srow c { m with x := x, so := so } (if so = true then sp else nilP) iv riv) := put_s h
  have l1 := less_r 2 c.high x.rk x.n (SPut s p (srow c { m with x := x, so := so } (if so = true then sp else nilP) iv riv))
  have e1 := ends_s (l := m.its) (w := iv) h1 0 hi
  simp only [put_put] at e1
  cases so with
  | true =>
    simp only [if_true] at *
    by_cases k : lessK 2 c.high x.rk x.n
    · rw [decide_eq_true k] at l1
      simp only [takesS, if_pos k, Bool.true_and]
      simp only [scan_Scan_takes.v, scan_Scan_takes.t, sy, reduceIte, Nat.reduceAdd, Nat.reduceLeDiff, Nat.reduceLT, Nat.reduceEqDiff, Int.reduceEq, Int.reduceLT, Int.reduceLE, Int.reduceNe, ly, stv_row h, stv_put h, ldc_row h1, hi, l1, e1]
      try rfl
    · rw [decide_eq_false k] at l1
      simp only [takesS, if_neg k, Bool.true_and]
      simp only [scan_Scan_takes.v, scan_Scan_takes.t, sy, reduceIte, Nat.reduceAdd, Nat.reduceLeDiff, Nat.reduceLT, Nat.reduceEqDiff, Int.reduceEq, Int.reduceLT, Int.reduceLE, Int.reduceNe, ly, stv_row h, stv_put h, ldc_row h1, l1]
  | false =>
    simp only [Bool.false_eq_true, if_false] at *
    by_cases k : lessK 2 c.high x.rk x.n
    · rw [decide_eq_true k] at l1
      simp only [takesS, if_pos k, Bool.false_and]
      simp only [scan_Scan_takes.v, scan_Scan_takes.t, sy, reduceIte, Nat.reduceAdd, Nat.reduceLeDiff, Nat.reduceLT, Nat.reduceEqDiff, Int.reduceEq, Int.reduceLT, Int.reduceLE, Int.reduceNe, ly, stv_row h, stv_put h, ldc_row h1, hi, l1, e1]
      try rfl
    · rw [decide_eq_false k] at l1
      simp only [takesS, if_neg k, Bool.false_and]
      simp only [scan_Scan_takes.v, scan_Scan_takes.t, sy, reduceIte, Nat.reduceAdd, Nat.reduceLeDiff, Nat.reduceLT, Nat.reduceEqDiff, Int.reduceEq, Int.reduceLT, Int.reduceLE, Int.reduceNe, ly, stv_row h, stv_put h, ldc_row h1, l1]
/-- The search may be over. -/
theorem found_s {s : St} {p b q : Nat} {c : SC} {m : Sc} {cf : Cf} {iv riv : Value} (h : SRow s p (srow c m (P b) iv riv)) (hA : At cf m.ms s b q) (hi : bx iv = some [iv]) (hm : m.hs = true) :
    ∃ s' riv', scan_Scan_found.v (P p) s = some (unit', s') ∧ SRow s' p (srow c (foundS c m) (P b) iv riv') ∧ (s' = s ∨ ∃ X, s' = SPut s p X) ∧ (foundS c m).hs = true ∧ ((foundS c m).its = m.its) ∧
      ((riv' = riv ∧ (foundS c m).ri = m.ri) ∨ (riv' = iv ∧ (foundS c m).ri = m.its) ∨ (riv' = nilV ∧ (foundS c m).ri = [])) := by
  have n1 := next_r hA
  cases ho : m.ms.ov with
  | false =>
    rw [show nextC m.ms = stepC 1 (if m.ms.lk = true then m.ms.to else m.ms.ap) ⟨1, m.ms.wl, m.ms.wb, zR, zR, 0, 0⟩ zRes by simp [nextC, ho]] at n1
    generalize (if m.ms.lk = true then m.ms.to else m.ms.ap) = t at n1
    have e : foundS c m = m := by simp [foundS, ho]
    rw [e]
    exact ⟨s, riv, by simp only [scan_Scan_found.v, scan_Scan_found.t, sy, reduceIte, Nat.reduceAdd, Nat.reduceLeDiff, Nat.reduceLT, Nat.reduceEqDiff, Int.reduceEq, Int.reduceLT, Int.reduceLE, Int.reduceNe, ly, ldc_row h, n1, stepC], h, .inl rfl, hm, rfl, .inl ⟨rfl, rfl⟩⟩
  | true =>
    rw [show nextC m.ms = stepC 3 zR zAsk m.ms.res by simp [nextC, ho]] at n1
    rcases Classical.propComplete (m.ms.res.e = 0) with k0 | k0
    · have e : foundS c m = takesS c m m.ms.res.r true := by simp [foundS, ho, of_eq_true k0]
      have t1 := takes_s h hi m.ms.res.r true
      rw [e]
      refine ⟨_, (if lessK 2 c.high m.ms.res.r.rk m.ms.res.r.n then iv else riv), by simp only [scan_Scan_found.v, scan_Scan_found.t, sy, reduceIte, Nat.reduceAdd, Nat.reduceLeDiff, Nat.reduceLT, Nat.reduceEqDiff, Int.reduceEq, Int.reduceLT, Int.reduceLE, Int.reduceNe, ly, ldc_row h, n1, stepC, k0, t1], put_s h, .inr ⟨_, rfl⟩, ?_, ?_, ?_⟩
      · unfold takesS endsS; split <;> simp [hm]
      · unfold takesS endsS; split <;> rfl
      · unfold takesS endsS
        by_cases k : lessK 2 c.high m.ms.res.r.rk m.ms.res.r.n
        · rw [if_pos k, if_pos k]; exact .inr (.inl ⟨rfl, rfl⟩)
        · rw [if_neg k, if_neg k]; exact .inl ⟨rfl, rfl⟩
    · have e : foundS c m = endsS m m.ms.res.e [] := by simp [foundS, ho, of_eq_false k0]
      have t1 := ends_s (l := []) (w := nilV) h m.ms.res.e rfl
      rw [e]
      exact ⟨_, _, by simp only [scan_Scan_found.v, scan_Scan_found.t, sy, reduceIte, Nat.reduceAdd, Nat.reduceLeDiff, Nat.reduceLT, Nat.reduceEqDiff, Int.reduceEq, Int.reduceLT, Int.reduceLE, Int.reduceNe, ly, ldc_row h, n1, stepC, k0, t1], put_s h, .inr ⟨_, rfl⟩, hm, rfl, .inr (.inr ⟨rfl, rfl⟩)⟩
theorem seeks_s {s : St} {p : Nat} {c : SC} {m : Sc} {sp iv riv : Value} (f : Fresh s) (h : SRow s p (srow c m sp iv riv)) (hb : 0 ≤ c.st.bt) :
    (¬ okC (c.sk m.fr m.fn) ∧ scan_Scan_seeks.v (P p) s = some (Bad, s)) ∨ (okC (c.sk m.fr m.fn) ∧ scan_Scan_seeks.v (P p) s = some (T2 (P (s.n + 1)) 0, N2 s (c.sk m.fr m.fn))) := by
  rcases new_r f (c.sk m.fr m.fn) hb with ⟨hC, e⟩ | ⟨hC, e⟩
  · refine .inl ⟨hC, ?_⟩
    simp only [scan_Scan_seeks.v, scan_Scan_seeks.t, sy, reduceIte, Nat.reduceAdd, Nat.reduceLeDiff, Nat.reduceLT, Nat.reduceEqDiff, Int.reduceEq, Int.reduceLT, Int.reduceLE, Int.reduceNe, ly, ldc_row h, lda_row h, e, sameII, same5, same2k]
  · have mo : More s (N2 s (c.sk m.fr m.fn)) := More.new.trans .new
    have h2 := mo.get f h
    refine .inr ⟨hC, ?_⟩
    generalize N2 s (c.sk m.fr m.fn) = s2 at *
    simp only [scan_Scan_seeks.v, scan_Scan_seeks.t, sy, reduceIte, Nat.reduceAdd, Nat.reduceLeDiff, Nat.reduceLT, Nat.reduceEqDiff, Int.reduceEq, Int.reduceLT, Int.reduceLE, Int.reduceNe, ly, ldc_row h, lda_row h, e, ldc_row h2, lda_row h2, sameII, same5, same2k]
theorem again_s {s : St} {p : Nat} {c : SC} {m : Sc} {sp iv riv : Value} (f : Fresh s) (h : SRow s p (srow c m sp iv riv)) (hb : 0 ≤ c.st.bt) (ht : 0 ≤ m.tr) (hC : okC (c.sk m.fr m.fn)) :
    (64 ≤ m.tr ∧ scan_Scan_again.v (P p) s = some (unit', SPut s p (srow c (againS c m) sp iv nilV))) ∨
    (m.tr < 64 ∧ ∃ s' b q, scan_Scan_again.v (P p) s = some (unit', s') ∧ SRow s' p (srow c (againS c m) (P b) iv riv) ∧ At (c.sk m.fr m.fn) (m0 (c.sk m.fr m.fn)) s' b q ∧ StpK [37] s s') := by
  rcases Classical.propComplete (64 ≤ m.tr) with k1 | k1
  · have e1 := ends_s (l := []) (w := nilV) h 121 rfl
    refine .inl ⟨of_eq_true k1, ?_⟩
    rw [show againS c m = endsS m 121 [] by simp [againS, of_eq_true k1]]
    simp only [scan_Scan_again.v, scan_Scan_again.t, sy, reduceIte, Nat.reduceAdd, Nat.reduceLeDiff, Nat.reduceLT, Nat.reduceEqDiff, Int.reduceEq, Int.reduceLT, Int.reduceLE, Int.reduceNe, ly, ldc_row h, k1, e1]
  · right
    have k1' : m.tr < 64 := by have := of_eq_false k1; omega
    refine ⟨k1', ?_⟩
    obtain ⟨s1, hs1⟩ : ∃ s1, s1 = SPut s p (srow c { m with tr := m.tr + 1 } sp iv riv) := ⟨_, rfl⟩
    have ew : IntKind.i64.wrap (m.tr + 1) = m.tr + 1 := wrap64 (by omega) (by omega)
    have e1 : stv s 1 (.pointer (some ⟨p, 0, some 19⟩)) (.int .i64 (m.tr + 1)) = some s1 := by rw [hs1]; simp only [stv_row h, sy, reduceIte, Nat.reduceAdd, Nat.reduceLeDiff, Nat.reduceLT, Nat.reduceEqDiff, Int.reduceEq, Int.reduceLT, Int.reduceLE, Int.reduceNe, ly]
    have h1 : SRow s1 p (srow c { m with tr := m.tr + 1 } sp iv riv) := by rw [hs1]; exact put_s h
    have f1 : Fresh s1 := by rw [hs1]; exact f.put
    have k1s : StpK [37] s s1 := by rw [hs1]; exact .put h (by simp [kd])
    rcases seeks_s f1 h1 hb with ⟨g, _⟩ | ⟨_, e2⟩
    · exact absurd hC g
    have hA := at_new f1 (c.sk m.fr m.fn)
    have mo : More s1 (N2 s1 (c.sk m.fr m.fn)) := More.new.trans .new
    have h2 := mo.get f1 h1
    have k2s : StpK [37] s1 (N2 s1 (c.sk m.fr m.fn)) := .more mo f1
    have e2 : scan_Scan_seeks.v (P p) s1 = some (T2 (P (s1.n + 1)) 0, N2 s1 (c.sk m.fr m.fn)) := e2
    generalize N2 s1 (c.sk m.fr m.fn) = s2 at *
    obtain ⟨s3, hs3⟩ : ∃ s3, s3 = SPut s2 p (srow c { m with tr := m.tr + 1 } (P (s1.n + 1)) iv riv) := ⟨_, rfl⟩
    have e3 : stv s2 1 (.pointer (some ⟨p, 0, some 10⟩)) (P (s1.n + 1)) = some s3 := by rw [hs3]; simp only [stv_row h2, sy, reduceIte, Nat.reduceAdd, Nat.reduceLeDiff, Nat.reduceLT, Nat.reduceEqDiff, Int.reduceEq, Int.reduceLT, Int.reduceLE, Int.reduceNe, ly]
    have h3 : SRow s3 p (srow c { m with tr := m.tr + 1 } (P (s1.n + 1)) iv riv) := by rw [hs3]; exact put_s h2
    obtain ⟨s4, hs4⟩ : ∃ s4, s4 = SPut s3 p (srow c (againS c m) (P (s1.n + 1)) iv riv) := ⟨_, rfl⟩
    have e4 : stv s3 1 (.pointer (some ⟨p, 0, some 16⟩)) (.bool false) = some s4 := by
      rw [hs4, show againS c m = { m with tr := m.tr + 1, hs := true, sr := m.fr, sn := m.fn, ms := m0 (c.sk m.fr m.fn), so := false } by simp [againS, of_eq_false k1]]
      simp only [stv_row h3, sy, reduceIte, Nat.reduceAdd, Nat.reduceLeDiff, Nat.reduceLT, Nat.reduceEqDiff, Int.reduceEq, Int.reduceLT, Int.reduceLE, Int.reduceNe, ly]
    have k3s : StpK [37] s2 s3 := by rw [hs3]; exact .put h2 (by simp [kd])
    have k4s : StpK [37] s3 s4 := by rw [hs4]; exact .put h3 (by simp [kd])
    refine ⟨s4, s1.n + 1, s1.n, ?_, by rw [hs4]; exact put_s h3, (hA.stp k3s (by simp) (by simp)).stp k4s (by simp) (by simp), ((k1s.trans k2s).trans k3s).trans k4s⟩
    simp only [scan_Scan_again.v, scan_Scan_again.t, sy, reduceIte, Nat.reduceAdd, Nat.reduceLeDiff, Nat.reduceLT, Nat.reduceEqDiff, Int.reduceEq, Int.reduceLT, Int.reduceLE, Int.reduceNe, ly, ldc_row h, k1, ew, e1, e2, e3, e4]
theorem eqb4n {a : Option Addr} {n k : Nat} : eqb [4] false false (.slice (some a.get!) n k) (.slice none 0 0) = some (.bool false) := rfl
theorem sclone_r {s : St} {v : Value} {l : List (List Value)} (hf : Fresh s) (h : Byt s v l) (hl : l.length ≤ 140737488355328) : ∃ w s', slices_Clone_byte_byte.v v s = some (w, s') ∧ More s s' ∧ Byt s' w l := by
  obtain ⟨a, n, k, rfl⟩ := h.sl
  cases a with
  | none =>
    have hr := h.rows
    have hlen := h.len
    simp only [lenV, Option.some.injEq] at hlen
    cases n with
    | zero =>
      cases k with
      | zero =>
        have e : eqb [4] false false (.slice none 0 0) (.slice none 0 0) = some (.bool true) := rfl
        exact ⟨_, s, by simp only [slices_Clone_byte_byte.v, slices_Clone_byte_byte.t, sy, reduceIte, Nat.reduceAdd, Nat.reduceLeDiff, Nat.reduceLT, Nat.reduceEqDiff, Int.reduceEq, Int.reduceLT, Int.reduceLE, Int.reduceNe, ly, e], .refl _, h⟩
      | succ k => simp [rowsOf] at hr
    | succ n => simp [rowsOf] at hr
  | some a =>
    obtain ⟨w, s', e1, e2, e3⟩ := clone_r hf h hl
    have e : eqb [4] false false (.slice (some a) n k) (.slice none 0 0) = some (.bool false) := rfl
    have z0 : 2 * 0 = 0 := rfl
    have rp0 : List.replicate 0 [Value.int .u8 0] = [] := rfl
    exact ⟨w, s', by simp only [slices_Clone_byte_byte.v, slices_Clone_byte_byte.t, sy, reduceIte, Nat.reduceAdd, Nat.reduceLeDiff, Nat.reduceLT, Nat.reduceEqDiff, Int.reduceEq, Int.reduceLT, Int.reduceLE, Int.reduceNe, ly, e, rp0, als_eq, z0, e1], e2, e3⟩
theorem ranks_r (s : St) : key_ranks.r s = some (.agg ⟨[.int .i64 1, .int .i64 2, .int .i64 3]⟩) := by
  simp only [key_ranks.r, key_ranks.t, sy, reduceIte, Nat.reduceAdd, Nat.reduceLeDiff, Nat.reduceLT, Nat.reduceEqDiff, Int.reduceEq, Int.reduceLT, Int.reduceLE, Int.reduceNe, ly]
theorem nextk_r (n : Int) (s : St) : key_Next.r (KV 2 n) s = some (.tuple ⟨[KV (nextR n) (nextN n), .bool true]⟩) := by
  have kc := kcheck_r 2 n s
  rw [if_pos (show okK 2 n from .inl rfl)] at kc
  have rk := ranks_r s
  unfold nextR nextN
  rcases Classical.propComplete (n = 18446744073709551615) with k | k
  · simp only [key_Next.r, key_Next.t, sy, reduceIte, Nat.reduceAdd, Nat.reduceLeDiff, Nat.reduceLT, Nat.reduceEqDiff, Int.reduceEq, Int.reduceLT, Int.reduceLE, Int.reduceNe, ly, kc, rk, k]
  · simp only [key_Next.r, key_Next.t, sy, reduceIte, Nat.reduceAdd, Nat.reduceLeDiff, Nat.reduceLT, Nat.reduceEqDiff, Int.reduceEq, Int.reduceLT, Int.reduceLE, Int.reduceNe, ly, kc, rk, k]
theorem callV_rd {C : Ctx} {f : Nat} {g : List Value → St → Option Value} {a x c : List Value} {s : St} (h : Sim.lookC C f = some (.rd g)) : callV C (.func (.func f) ⟨a⟩ ⟨c⟩) x s = (g (a ++ x ++ c) s).map fun r => (r, s) := by
  simp only [callV, h]
theorem behind_r {s : St} {p b : Nat} {c : SC} {m : Sc} {sp iv riv : Value} (hbox : s.get b = some (.row 1 [[P p]] false)) (h : SRow s p (srow c m sp iv riv)) (hx : m.x.rk = 2) :
    scan_Scan_has_fn1.r (P b) s = some (KV (nextR m.x.n) (nextN m.x.n)) := by
  have nk := nextk_r m.x.n s
  rw [← hx] at nk
  simp only [scan_Scan_has_fn1.r, scan_Scan_has_fn1.t, sy, reduceIte, Nat.reduceAdd, Nat.reduceLeDiff, Nat.reduceLT, Nat.reduceEqDiff, Int.reduceEq, Int.reduceLT, Int.reduceLE, Int.reduceNe, ly, ldc_row hbox, ldc_row h, lda_row h, nk]
end Go.Proofs.Ytmobdijoaebilaa
