/-
  The machine of package seek: what each step makes of it.
-/
import Derived.Test.YteafgjpbfhjbjaaGreatMachA
import Derived.Test.YteafgjpbfhjbjaaGreatMachC
set_option linter.unusedSimpArgs false
set_option linter.unusedVariables false
set_option maxRecDepth 100000
set_option maxHeartbeats 2000000
namespace Go.Proofs.YteafgjpbfhjbjaaGreat
open Go.Sim Go.Sim.Bt
attribute [local congr] bdc cndc itec gdc gdSc gdUc
structure Cf where
  h : Int
  st : Rf
  tr : Int
  tn : Int
structure Wk where
  id : Int
  l : Int
  b : Int
structure Mm where
  ap : Rf
  wl : Int
  wb : Int
  lk : Bool
  to : Rf
  n : Int
  ov : Bool
  res : Res
  tab : List (Wk × Rf)
abbrev Cf.cs (c : Cf) : List Value := [.int .i64 c.h, .int .i64 c.st.id, .int .i64 c.st.rk, .int .u64 c.st.n, .int .i64 c.st.ln, .int .u64 c.st.bt, .int .i64 c.tr, .int .u64 c.tn]
abbrev Res.cs (r : Res) : List Value := [.int .i64 r.e, .int .u64 r.key, .slice none 0 0, .slice none 0 0, .int .i64 r.l.id, .int .i64 r.l.rk, .int .u64 r.l.n, .int .i64 r.l.ln, .int .u64 r.l.bt, .int .i64 r.r.id, .int .i64 r.r.rk, .int .u64 r.r.n, .int .i64 r.r.ln, .int .u64 r.r.bt, .bool r.found]
abbrev P (b : Nat) : Value := .pointer (some ⟨b, 0, some 0⟩)
abbrev unit' : Value := .tuple ⟨[]⟩
abbrev Wk.v (k : Wk) : Value := .agg ⟨[.int .i64 k.id, .int .i64 k.l, .int .u64 k.b]⟩
def enc (e : Wk × Rf) : Value × Value := (e.1.v, .agg ⟨e.2.cs⟩)
abbrev urow (c : Cf) (m : Mm) (q : Nat) : List Value :=
  [.int .i64 c.h, .int .i64 c.st.id, .int .i64 c.st.rk, .int .u64 c.st.n, .int .i64 c.st.ln, .int .u64 c.st.bt, .int .i64 c.tr, .int .u64 c.tn, .bool true, .int .i64 m.ap.id, .int .i64 m.ap.rk, .int .u64 m.ap.n, .int .i64 m.ap.ln, .int .u64 m.ap.bt, .int .i64 m.wl, .int .u64 m.wb, .bool m.lk, .int .i64 m.to.id, .int .i64 m.to.rk, .int .u64 m.to.n, .int .i64 m.to.ln, .int .u64 m.to.bt, .map (some q), .int .i64 m.n, .bool m.ov,
   .int .i64 m.res.e, .int .u64 m.res.key, .slice none 0 0, .slice none 0 0, .int .i64 m.res.l.id, .int .i64 m.res.l.rk, .int .u64 m.res.l.n, .int .i64 m.res.l.ln, .int .u64 m.res.l.bt, .int .i64 m.res.r.id, .int .i64 m.res.r.rk, .int .u64 m.res.r.n, .int .i64 m.res.r.ln, .int .u64 m.res.r.bt, .bool m.res.found]
abbrev Row (s : St) (b : Nat) (cs : List Value) : Prop := s.get b = some (.row 40 [cs] false)
abbrev Put (s : St) (b : Nat) (cs : List Value) : St := s.put b (.row 40 [cs] false)
structure At (c : Cf) (m : Mm) (s : St) (b q : Nat) : Prop where
  row : Row s b (urow c m q)
  map : s.get q = some (.map (m.tab.map enc) false)
def Stq (b q : Nat) (s s' : St) : Prop := (∀ d, d ≠ b → d ≠ q → s'.get d = s.get d) ∧ s'.n = s.n ∧ (Fresh s → Fresh s')
theorem Stq.refl (b q : Nat) (s : St) : Stq b q s s := ⟨fun _ _ _ => rfl, rfl, id⟩
theorem Stq.trans {b q : Nat} {s s1 s2 : St} (h : Stq b q s s1) (k : Stq b q s1 s2) : Stq b q s s2 :=
  ⟨fun d h1 h2 => (k.1 d h1 h2).trans (h.1 d h1 h2), k.2.1.trans h.2.1, fun f => k.2.2 (h.2.2 f)⟩
theorem Stq.putb {b q : Nat} {s : St} {x : Blk} : Stq b q s (s.put b x) := ⟨fun _ h _ => get_put_ne h, rfl, fun f => f.put⟩
theorem Stq.putq {b q : Nat} {s : St} {x : Blk} : Stq b q s (s.put q x) := ⟨fun _ _ h => get_put_ne h, rfl, fun f => f.put⟩
theorem At.ne {c : Cf} {m : Mm} {s : St} {b q : Nat} (h : At c m s b q) : q ≠ b := by
  rintro rfl
  have h1 := h.row
  unfold Row at h1
  rw [h.map] at h1
  simp at h1
theorem At.put {c : Cf} {m m' : Mm} {s : St} {b q : Nat} (h : At c m s b q) (ht : m'.tab = m.tab) : At c m' (Put s b (urow c m' q)) b q :=
  ⟨get_put_same h.row, by rw [get_put_ne h.ne, ht]; exact h.map⟩
def eqW (a b : Wk) : Bool := decide (a.id = b.id) && (decide (a.l = b.l) && decide (a.b = b.b))
theorem eqT_w (a b : Wk) : eqT [1, 1, 1] true a.v b.v = some (eqW a b) := by
  simp only [eqT, eqks, eqk, if_true, bds, eqW]
  congr 1
  by_cases h1 : a.id = b.id <;> by_cases h2 : a.l = b.l <;> by_cases h3 : a.b = b.b <;> simp [h1, h2, h3]
theorem find_r (k : Wk) : ∀ tab : List (Wk × Rf), findM [1, 1, 1] true (tab.map enc) k.v = some (tab.findIdx? fun e => eqW k e.1)
  | [] => rfl
  | e :: tab => by
    show (eqT [1, 1, 1] true k.v e.1.v).bind _ = _
    rw [eqT_w, bds, List.findIdx?_cons]
    cases h : eqW k e.1
    · simp only [Bool.false_eq_true, if_false]
      rw [find_r k tab]
      rfl
    · rfl
theorem keyS_w (k : Wk) : keyS 3 true k.v = true := rfl
def upd (tab : List (Wk × Rf)) (k : Wk) (r : Rf) : List (Wk × Rf) :=
  match tab.findIdx? fun e => eqW k e.1 with
  | some i => tab.set i (k, r)
  | none => tab ++ [(k, r)]
theorem upm_r {s : St} {q : Nat} {tab : List (Wk × Rf)} (h : s.get q = some (.map (tab.map enc) false)) (k : Wk) (r : Rf) :
    upm s [1, 1, 1] true (.map (some q)) k.v (.agg ⟨r.cs⟩) = some (s.put q (.map ((upd tab k r).map enc) false)) := by
  unfold upm upd
  rw [show ([1, 1, 1] : List Nat).length = 3 from rfl, keyS_w, if_pos rfl]
  simp only [h, find_r, bds]
  cases tab.findIdx? fun e => eqW k e.1 with
  | none => simp [enc]
  | some i => simp [enc]
theorem bx_map {b : Option Nat} : bx (.map b) = some [.map b] := id rfl
def headR (h : Int) : Rf := ⟨0, 1, 0, h, 0⟩
def busy (m : Mm) : Mm := { m with ov := true, res := ⟨121, 0, zR, zR, false⟩ }
def againC (c : Cf) (m : Mm) : Mm := if 64 ≤ m.n then busy m else { m with n := m.n + 1, ap := headR c.h, wl := c.h, wb := 0, lk := false }
def keepC (m : Mm) (r : Rf) (x : Rf) : Mm := { m with tab := upd m.tab ⟨r.id, m.wl, m.wb⟩ x }
theorem is_r {c : Cf} {m : Mm} {s : St} {b q : Nat} (h : At c m s b q) : kS_is.r (P b) s = some (.bool true) := by
  have h := h.row
  simp only [kS_is.r, kS_is.t, sy, reduceIte, Nat.reduceAdd, Nat.reduceLeDiff, Nat.reduceLT, Nat.reduceEqDiff, Int.reduceEq, Int.reduceLT, Int.reduceLE, Int.reduceNe, ly, ldc_row h]
def nextC (m : Mm) : List Value :=
  if m.ov = true then stepC 3 zR zAsk m.res else stepC 1 (if m.lk = true then m.to else m.ap) ⟨1, m.wl, m.wb, zR, zR, 0, 0⟩ zRes
theorem next_r {c : Cf} {m : Mm} {s : St} {b q : Nat} (h : At c m s b q) : kS_Next.r (P b) s = some (.agg ⟨nextC m⟩) := by
  have i := is_r h
  have h := h.row
  cases h1 : m.ov
  · cases h2 : m.lk
    · simp only [kS_Next.r, kS_Next.t, kS_Next.t.p1, kS_Next.t.p2, sy, reduceIte, Nat.reduceAdd, Nat.reduceLeDiff, Nat.reduceLT, Nat.reduceEqDiff, Int.reduceEq, Int.reduceLT, Int.reduceLE, Int.reduceNe, ly, ldc_row h, lda_row h, i, h1, h2, nextC, stepC]
    · simp only [kS_Next.r, kS_Next.t, kS_Next.t.p1, kS_Next.t.p2, sy, reduceIte, Nat.reduceAdd, Nat.reduceLeDiff, Nat.reduceLT, Nat.reduceEqDiff, Int.reduceEq, Int.reduceLT, Int.reduceLE, Int.reduceNe, ly, ldc_row h, lda_row h, i, h1, h2, nextC, stepC]
  · simp only [kS_Next.r, kS_Next.t, kS_Next.t.p1, kS_Next.t.p2, sy, reduceIte, Nat.reduceAdd, Nat.reduceLeDiff, Nat.reduceLT, Nat.reduceEqDiff, Int.reduceEq, Int.reduceLT, Int.reduceLE, Int.reduceNe, ly, ldc_row h, lda_row h, i, h1, nextC, stepC]
theorem counts_r {c : Cf} {m : Mm} {s : St} {b q : Nat} (h : At c m s b q) (hn : 0 ≤ m.n) :
    (64 ≤ m.n ∧ kS_counts.v (P b) s = some (.bool false, Put s b (urow c (busy m) q))) ∨ (m.n < 64 ∧ kS_counts.v (P b) s = some (.bool true, Put s b (urow c { m with n := m.n + 1 } q))) := by
  have h := h.row
  by_cases h1 : 64 ≤ m.n
  · left
    refine ⟨h1, ?_⟩
    simp only [kS_counts.v, kS_counts.t, sy, reduceIte, Nat.reduceAdd, Nat.reduceLeDiff, Nat.reduceLT, Nat.reduceEqDiff, Int.reduceEq, Int.reduceLT, Int.reduceLE, Int.reduceNe, ly, ldc_row h, stv_row h, stv_put h, h1, busy]
  · right
    refine ⟨by omega, ?_⟩
    have e : IntKind.i64.wrap (m.n + 1) = m.n + 1 := wrap64 (by omega) (by omega)
    simp only [kS_counts.v, kS_counts.t, sy, reduceIte, Nat.reduceAdd, Nat.reduceLeDiff, Nat.reduceLT, Nat.reduceEqDiff, Int.reduceEq, Int.reduceLT, Int.reduceLE, Int.reduceNe, ly, ldc_row h, stv_row h, stv_put h, h1, e]
theorem again_r {c : Cf} {m : Mm} {s : St} {b q : Nat} (h : At c m s b q) (hn : 0 ≤ m.n) : ∃ s', kS_again.v (P b) s = some (unit', s') ∧ At c (againC c m) s' b q ∧ Stq b q s s' := by
  rcases counts_r h hn with ⟨h1, e⟩ | ⟨h1, e⟩
  · refine ⟨Put s b (urow c (busy m) q), ?_, by unfold againC; rw [if_pos h1]; exact h.put rfl, .putb⟩
    simp only [kS_again.v, kS_again.t, sy, reduceIte, Nat.reduceAdd, Nat.reduceLeDiff, Nat.reduceLT, Nat.reduceEqDiff, Int.reduceEq, Int.reduceLT, Int.reduceLE, Int.reduceNe, ly, e]
  · refine ⟨Put s b (urow c { m with n := m.n + 1, ap := headR c.h, wl := c.h, wb := 0, lk := false } q), ?_, by unfold againC; rw [if_neg (by omega)]; exact h.put rfl, .putb⟩
    have hr := h.row
    simp only [kS_again.v, kS_again.t, sy, reduceIte, Nat.reduceAdd, Nat.reduceLeDiff, Nat.reduceLT, Nat.reduceEqDiff, Int.reduceEq, Int.reduceLT, Int.reduceLE, Int.reduceNe, ly, e, ldc_put hr, stv_put hr, headR]
theorem keep_r {c : Cf} {m : Mm} {s : St} {b q : Nat} (h : At c m s b q) (r : Rf) (a : Ans) : ∃ s', kS_keep.v (P b) (.agg ⟨r.cs⟩) (.agg ⟨a.cs⟩) s = some (unit', s') ∧ At c (keepC m r a.r) s' b q ∧ Stq b q s s' := by
  have hr := h.row
  have e := upm_r h.map ⟨r.id, m.wl, m.wb⟩ a.r
  refine ⟨_, ?_, ⟨?_, get_put_same h.map⟩, .putq⟩
  · simp only [kS_keep.v, kS_keep.t, sy, reduceIte, Nat.reduceAdd, Nat.reduceLeDiff, Nat.reduceLT, Nat.reduceEqDiff, Int.reduceEq, Int.reduceLT, Int.reduceLE, Int.reduceNe, ly, ldc_row hr, lda_row hr, e]
    rfl
  · show (s.put q _).get b = _
    rw [get_put_ne (fun x => h.ne x.symm)]
    exact hr
abbrev Bad : Value := T2 (.pointer none) 120
def okC (c : Cf) : Prop := 0 ≤ c.h ∧ c.h ≤ 32 ∧ okK c.st.rk c.st.n ∧ okV c.st.ln c.st.bt ∧ c.st.ln = c.h ∧ okK c.tr c.tn ∧ c.tr ≠ 1
def m0 (c : Cf) : Mm := ⟨c.st, c.st.ln, c.st.bt, false, zR, 0, false, zRes, []⟩
abbrev N2 (s : St) (c : Cf) : St := (s.new (.map [] false)).new (.row 40 [urow c (m0 c) s.n] false)
open Classical in
theorem sright_r (st : Rf) (h : Int) (s : St) (hb : 0 ≤ st.bt) : seek_right.r (.agg ⟨st.cs⟩) (.int .i64 h) s = some (.bool (decide (okK st.rk st.n ∧ okV st.ln st.bt ∧ st.ln = h))) := by
  have kc := kcheck_r st.rk st.n s
  have r1 := right_i st.ln st.bt hb s
  rcases Classical.propComplete (okK st.rk st.n) with k1 | k1
  · rcases Classical.propComplete (okV st.ln st.bt) with k2 | k2
    · rcases Classical.propComplete (st.ln = h) with k3 | k3
      · simp only [k1, k2, reduceIte] at kc r1
        simp only [seek_right.r, seek_right.t, sy, reduceIte, Nat.reduceAdd, Nat.reduceLeDiff, Nat.reduceLT, Nat.reduceEqDiff, Int.reduceEq, Int.reduceLT, Int.reduceLE, Int.reduceNe, ly, kc, r1, k1, k2, k3]
      · simp only [k1, k2, reduceIte] at kc r1
        simp only [seek_right.r, seek_right.t, sy, reduceIte, Nat.reduceAdd, Nat.reduceLeDiff, Nat.reduceLT, Nat.reduceEqDiff, Int.reduceEq, Int.reduceLT, Int.reduceLE, Int.reduceNe, ly, kc, r1, k1, k2, k3]
    · simp only [k1, k2, reduceIte] at kc r1
      simp only [seek_right.r, seek_right.t, sy, reduceIte, Nat.reduceAdd, Nat.reduceLeDiff, Nat.reduceLT, Nat.reduceEqDiff, Int.reduceEq, Int.reduceLT, Int.reduceLE, Int.reduceNe, ly, kc, r1, k1, k2]
  · simp only [k1, reduceIte] at kc
    simp only [seek_right.r, seek_right.t, sy, reduceIte, Nat.reduceAdd, Nat.reduceLeDiff, Nat.reduceLT, Nat.reduceEqDiff, Int.reduceEq, Int.reduceLT, Int.reduceLE, Int.reduceNe, ly, kc, k1]
open Classical in
theorem new_r {s : St} (hf : Fresh s) (c : Cf) (hb : 0 ≤ c.st.bt) :
    (¬ okC c ∧ seek_New.v (.agg ⟨c.cs⟩) s = some (Bad, s)) ∨ (okC c ∧ seek_New.v (.agg ⟨c.cs⟩) s = some (T2 (P (s.n + 1)) 0, N2 s c)) := by
  have sr := sright_r c.st c.h s hb
  have kc := kcheck_r c.tr c.tn s
  by_cases k1 : c.h < 0
  · left
    refine ⟨fun g => by have := g.1; omega, ?_⟩
    simp only [seek_New.v, seek_New.t, seek_New.t.p1, sy, reduceIte, Nat.reduceAdd, Nat.reduceLeDiff, Nat.reduceLT, Nat.reduceEqDiff, Int.reduceEq, Int.reduceLT, Int.reduceLE, Int.reduceNe, ly, k1]
  · by_cases k2 : 32 < c.h
    · left
      refine ⟨fun g => by have := g.2.1; omega, ?_⟩
      simp only [seek_New.v, seek_New.t, seek_New.t.p1, sy, reduceIte, Nat.reduceAdd, Nat.reduceLeDiff, Nat.reduceLT, Nat.reduceEqDiff, Int.reduceEq, Int.reduceLT, Int.reduceLE, Int.reduceNe, ly, k1, k2]
    · rcases Classical.propComplete (okK c.st.rk c.st.n ∧ okV c.st.ln c.st.bt ∧ c.st.ln = c.h) with k3 | k3
      · simp only [k3, decide_true] at sr
        rcases Classical.propComplete (okK c.tr c.tn) with k4 | k4
        · simp only [k4, reduceIte] at kc
          rcases Classical.propComplete (c.tr = 1) with k5 | k5
          · left
            refine ⟨fun g => g.2.2.2.2.2.2 (of_eq_true k5), ?_⟩
            simp only [seek_New.v, seek_New.t, seek_New.t.p1, sy, reduceIte, Nat.reduceAdd, Nat.reduceLeDiff, Nat.reduceLT, Nat.reduceEqDiff, Int.reduceEq, Int.reduceLT, Int.reduceLE, Int.reduceNe, ly, k1, k2, sr, kc, k5]
          · right
            have k3' := of_eq_true k3
            refine ⟨⟨by omega, by omega, k3'.1, k3'.2.1, k3'.2.2, of_eq_true k4, of_eq_false k5⟩, ?_⟩
            simp only [seek_New.v, seek_New.t, seek_New.t.p1, sy, reduceIte, Nat.reduceAdd, Nat.reduceLeDiff, Nat.reduceLT, Nat.reduceEqDiff, Int.reduceEq, Int.reduceLT, Int.reduceLE, Int.reduceNe, ly, k1, k2, sr, kc, k5, mkm, alv_eq, bx_map, new_n, N2, m0, urow]
        · left
          refine ⟨fun g => of_eq_false k4 g.2.2.2.2.2.1, ?_⟩
          simp only [k4, reduceIte] at kc
          simp only [seek_New.v, seek_New.t, seek_New.t.p1, sy, reduceIte, Nat.reduceAdd, Nat.reduceLeDiff, Nat.reduceLT, Nat.reduceEqDiff, Int.reduceEq, Int.reduceLT, Int.reduceLE, Int.reduceNe, ly, k1, k2, sr, kc]
      · left
        refine ⟨fun g => of_eq_false k3 ⟨g.2.2.1, g.2.2.2.1, g.2.2.2.2.1⟩, ?_⟩
        simp only [k3, decide_false] at sr
        simp only [seek_New.v, seek_New.t, seek_New.t.p1, sy, reduceIte, Nat.reduceAdd, Nat.reduceLeDiff, Nat.reduceLT, Nat.reduceEqDiff, Int.reduceEq, Int.reduceLT, Int.reduceLE, Int.reduceNe, ly, k1, k2, sr]
theorem at_new {s : St} (hf : Fresh s) (c : Cf) : At c (m0 c) (N2 s c) (s.n + 1) s.n :=
  ⟨get_new_same, by rw [get_new_ne (by show s.n ≠ s.n + 1; omega)]; exact get_new_same⟩
end Go.Proofs.YteafgjpbfhjbjaaGreat
