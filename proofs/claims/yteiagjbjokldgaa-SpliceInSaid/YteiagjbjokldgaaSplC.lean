/-
  The machine of package splice: what each step makes of it.
-/
import Derived.Test.YteiagjbjokldgaaSplA
import Derived.Test.YteiagjbjokldgaaGW1
set_option linter.unusedSimpArgs false
set_option linter.unusedVariables false
set_option maxRecDepth 100000
set_option maxHeartbeats 2000000
namespace Go.Proofs.Yteiagjbjokldgaa
open Go.Sim Go.Sim.Bt
attribute [local congr] bdc cndc itec gdc gdSc gdUc

abbrev unit' : Value := .tuple ⟨[]⟩
abbrev Put (s : St) (b : Nat) (cs : List Value) : St := s.put b (.row 44 [cs] false)
theorem callV_st {C : Ctx} {f : Nat} {g : List Value → St → Option (Value × St)} {a x c : List Value} {s : St} (h : Sim.lookC C f = some (.st g)) : callV C (.func (.func f) ⟨a⟩ ⟨c⟩) x s = g (a ++ x ++ c) s := by
  simp only [callV, h]
theorem bx_fn {f : Fn} {a c : Array Value} : bx (.func f a c) = some [.func f a c] := id rfl
theorem bx_p {b : Nat} : bx (P b) = some [P b] := id rfl
theorem sameP {b : Nat} : sameV (P b) (P b) = true := by simp [sameV]
theorem same5 (r : Rf) : sameV (.agg ⟨[.int .i64 r.id, .int .i64 r.rk, .int .u64 r.n, .int .i64 r.ln, .int .u64 r.bt]⟩) (.agg ⟨[.int .i64 r.id, .int .i64 r.rk, .int .u64 r.n, .int .i64 r.ln, .int .u64 r.bt]⟩) = true := by simp [sameV, sameVs]

/-- What a step leaves: all rows but one, and more. -/
def Stp (b : Nat) (s s' : St) : Prop := s.n ≤ s'.n ∧ (∀ d, d < s.n → d ≠ b → s'.get d = s.get d) ∧ (Fresh s → Fresh s')
theorem Stp.refl (b : Nat) (s : St) : Stp b s s := ⟨Nat.le_refl _, fun _ _ _ => rfl, id⟩
theorem Stp.more {b : Nat} {s s' : St} (h : More s s') : Stp b s s' := ⟨h.n, fun d hd _ => h.old d hd, h.fresh⟩
theorem Stp.put {b : Nat} {s : St} {x : Blk} : Stp b s (s.put b x) := ⟨Nat.le_refl _, fun d _ hd => get_put_ne hd, fun f => f.put⟩
theorem Stp.trans {b : Nat} {s s1 s2 : St} (h : Stp b s s1) (k : Stp b s1 s2) : Stp b s s2 :=
  ⟨Nat.le_trans h.1 k.1, fun d hd hb => (k.2.1 d (Nat.lt_of_lt_of_le hd h.1) hb).trans (h.2.1 d hd hb), fun f => k.2.2 (h.2.2 f)⟩
theorem Stp.get {b : Nat} {s s' : St} (h : Stp b s s') (hf : Fresh s) {d : Nat} {x : Blk} (hd : s.get d = some x) (hb : d ≠ b) : s'.get d = some x := by
  rw [h.2.1 d (hf.lt hd) hb]; exact hd
theorem ne_row {s : St} {b d n : Nat} {cs : List Value} {rows : List (List Value)} {ro : Bool} (h : Row s b cs) (g : s.get d = some (.row n rows ro)) (hn : n ≠ 44) : d ≠ b := by
  rintro rfl
  have h2 := h
  unfold Row at h2
  rw [g] at h2
  simp at h2
  exact hn h2.1

def LastOk (s : St) (lp : Value) : Option Rf → Prop
  | none => lp = .pointer none
  | some q => ∃ d ro, lp = P d ∧ s.get d = some (.row 5 [q.cs] ro)
theorem LastOk.stp {b : Nat} {s s' : St} {lp : Value} {o : Option Rf} {cs : List Value} (h : LastOk s lp o) (hr : Row s b cs) (hf : Fresh s) (k : Stp b s s') : LastOk s' lp o := by
  cases o with
  | none => exact h
  | some q =>
    obtain ⟨d, ro, h1, h2⟩ := h
    exact ⟨d, ro, h1, k.get hf h2 (ne_row hr h2 (by omega))⟩
abbrev Bx (s : St) (b q : Nat) : Prop := s.get q = some (.row 1 [[P b]] false)
def ThOk (s : St) (b : Nat) (fv : Value) : Th → Prop
  | .no => False
  | .fin r => (∃ qs qe e, r = finR e ∧ fv = .func (.func 82) ⟨[]⟩ ⟨[P qs, P qe]⟩ ∧ Bx s b qs ∧ s.get qe = some (.row 1 [[.int .i64 e]] false)) ∨
      (∃ qs qr, fv = .func (.func 81) ⟨[]⟩ ⟨[P qs, P qr]⟩ ∧ Bx s b qs ∧ s.get qr = some (.row 15 [r.cs] false))
  | .wait => ∃ qs, fv = .func (.func 80) ⟨[]⟩ ⟨[P qs]⟩ ∧ Bx s b qs
  | .next => ∃ qs, fv = .func (.func 101) ⟨[]⟩ ⟨[P qs]⟩ ∧ Bx s b qs
  | .ex => ∃ qs, fv = .func (.func 46) ⟨[]⟩ ⟨[P qs]⟩ ∧ Bx s b qs
theorem ThOk.stp {b : Nat} {s s' : St} {fv : Value} {t : Th} {cs : List Value} (h : ThOk s b fv t) (hr : Row s b cs) (hf : Fresh s) (k : Stp b s s') : ThOk s' b fv t := by
  have g1 : ∀ {q : Nat}, Bx s b q → Bx s' b q := fun h => k.get hf h (ne_row hr h (by omega))
  cases t with
  | no => exact h
  | fin r =>
    rcases h with ⟨qs, qe, e, h0, h1, h2, h3⟩ | ⟨qs, qr, h1, h2, h3⟩
    · exact .inl ⟨qs, qe, e, h0, h1, g1 h2, k.get hf h3 (ne_row hr h3 (by omega))⟩
    · exact .inr ⟨qs, qr, h1, g1 h2, k.get hf h3 (ne_row hr h3 (by omega))⟩
  | wait => obtain ⟨qs, h1, h2⟩ := h; exact ⟨qs, h1, g1 h2⟩
  | next => obtain ⟨qs, h1, h2⟩ := h; exact ⟨qs, h1, g1 h2⟩
  | ex => obtain ⟨qs, h1, h2⟩ := h; exact ⟨qs, h1, g1 h2⟩
structure CtxHas (C : Ctx) : Prop where
  c1 : Sim.lookC C 46 = some (.st splice_Splice_Tell_fn1.w)
  c2 : Sim.lookC C 80 = some (.st splice_Splice_wait_fn1.w)
  c3 : Sim.lookC C 81 = some (.st splice_Splice_done_fn1.w)
  c4 : Sim.lookC C 82 = some (.st splice_Splice_fail_fn1.w)
  c5 : Sim.lookC C 101 = some (.st splice_Splice_look_fn1.w)
theorem free_ctx : CtxHas splice_Splice_free.ctx := ⟨rfl, rfl, rfl, rfl, rfl⟩
theorem tell_ctx : CtxHas splice_Splice_Tell.ctx := ⟨rfl, rfl, rfl, rfl, rfl⟩
/-- The machine in the heap. -/
def At (c : Cf) (m : Mm) (s : St) (b : Nat) : Prop := ∃ lp fv, Row s b (urow c m lp fv) ∧ LastOk s lp m.last ∧ (m.at' = 8 → ThOk s b fv m.th)
theorem At.stp {c : Cf} {m : Mm} {s s' : St} {b : Nat} (h : At c m s b) (hf : Fresh s) (k : More s s') : At c m s' b := by
  obtain ⟨lp, fv, h1, h2, h3⟩ := h
  exact ⟨lp, fv, k.get hf h1, h2.stp h1 hf (.more k), fun e => (h3 e).stp h1 hf (.more k)⟩
theorem At.put {c : Cf} {m : Mm} {s : St} {b : Nat} {lp fv : Value} {cs : List Value} (h : Row s b cs) (hf : Fresh s) (hl : LastOk s lp m.last) (h8 : m.at' ≠ 8) : At c m (Put s b (urow c m lp fv)) b :=
  ⟨lp, fv, get_put_same h, hl.stp h hf .put, fun e => absurd e h8⟩

theorem end_r {s : St} {b : Nat} {c : Cf} {m : Mm} {lp fv : Value} (h : Row s b (urow c m lp fv)) (r : Res) :
    splice_Splice_end.v (P b) (.agg ⟨r.cs⟩) s = some (unit', Put s b (urow c { m with at' := 10, res := r } lp fv)) := by
  simp only [splice_Splice_end.v, splice_Splice_end.t, sy, reduceIte, Nat.reduceAdd, Nat.reduceLeDiff, Nat.reduceLT, Nat.reduceEqDiff, Int.reduceEq, Int.reduceLT, Int.reduceLE, Int.reduceNe, ly, ldc_row h, lda_row h, stv_row h, ldc_put h, lda_put h, stv_put h]

def S6 (s : St) (p : Rf) : St := (s.new (.row 5 [zR.cs] false)).put s.n (.row 5 [p.cs] false)
theorem S6_more (s : St) (p : Rf) : More s (S6 s p) := More.new.put (Nat.le_refl _)
theorem S6_o (s : St) (p : Rf) : (S6 s p).get s.n = some (.row 5 [p.cs] false) := get_put_same get_new_same
theorem S6_put (s : St) (p : Rf) : stv (s.new (.row 5 [zR.cs] false)) 5 (P s.n) (.agg ⟨p.cs⟩) = some (S6 s p) := by
  simp only [stv_row (get_new_same (s := s)), sy, reduceIte, Nat.reduceAdd, Nat.reduceLeDiff, Nat.reduceLT, Nat.reduceEqDiff, Int.reduceEq, Int.reduceLT, Int.reduceLE, Int.reduceNe, ly, S6]
theorem run_r {C : Ctx} (hC : CtxHas C) {s : St} {b : Nat} {c : Cf} {m : Mm} {lp fv fv0 : Value} {t : Th} (hf : Fresh s) (h : Row s b (urow c m lp fv0)) (hl : LastOk s lp m.last) (ht : ThOk s b fv t) :
    ∃ s', callV C fv [] s = some (unit', s') ∧ At c (runC m t) s' b ∧ Stp b s s' := by
  cases t with
  | no => exact ht.elim
  | fin r =>
    rcases ht with ⟨qs, qe, e, rfl, rfl, h2, h3⟩ | ⟨qs, qr, rfl, h2, h3⟩
    · refine ⟨Put s b (urow c { m with at' := 10, res := finR e } lp fv0), ?_, At.put (m := { m with at' := 10, res := finR e }) h hf hl (by simp), .put⟩
      rw [callV_st hC.c4]
      have e1 := end_r h (finR e)
      show splice_Splice_fail_fn1.v (P qs) (P qe) s = _
      simp only [splice_Splice_fail_fn1.v, splice_Splice_fail_fn1.t, sy, reduceIte, Nat.reduceAdd, Nat.reduceLeDiff, Nat.reduceLT, Nat.reduceEqDiff, Int.reduceEq, Int.reduceLT, Int.reduceLE, Int.reduceNe, ly, ldc_row h2, ldc_row h3, finR] at e1 ⊢
      simp only [e1, sy, reduceIte, Nat.reduceAdd, Nat.reduceLeDiff, Nat.reduceLT, Nat.reduceEqDiff, Int.reduceEq, Int.reduceLT, Int.reduceLE, Int.reduceNe]
    · refine ⟨Put s b (urow c { m with at' := 10, res := r } lp fv0), ?_, At.put (m := { m with at' := 10, res := r }) h hf hl (by simp), .put⟩
      rw [callV_st hC.c3]
      have e1 := end_r h r
      show splice_Splice_done_fn1.v (P qs) (P qr) s = _
      simp only [splice_Splice_done_fn1.v, splice_Splice_done_fn1.t, sy, reduceIte, Nat.reduceAdd, Nat.reduceLeDiff, Nat.reduceLT, Nat.reduceEqDiff, Int.reduceEq, Int.reduceLT, Int.reduceLE, Int.reduceNe, ly, ldc_row h2, lda_row h3, e1]
  | wait =>
    obtain ⟨qs, rfl, h2⟩ := ht
    refine ⟨Put s b (urow c { m with at' := 9 } lp fv0), ?_, At.put (m := { m with at' := 9 }) h hf hl (by simp), .put⟩
    rw [callV_st hC.c2]
    show splice_Splice_wait_fn1.v (P qs) s = _
    simp only [splice_Splice_wait_fn1.v, splice_Splice_wait_fn1.t, sy, reduceIte, Nat.reduceAdd, Nat.reduceLeDiff, Nat.reduceLT, Nat.reduceEqDiff, Int.reduceEq, Int.reduceLT, Int.reduceLE, Int.reduceNe, ly, ldc_row h2, stv_row h]
  | ex =>
    obtain ⟨qs, rfl, h2⟩ := ht
    refine ⟨Put s b (urow c { m with at' := 10, res := ⟨100, 0, m.p, m.r, false⟩ } lp fv0), ?_, At.put (m := { m with at' := 10, res := ⟨100, 0, m.p, m.r, false⟩ }) h hf hl (by simp), .put⟩
    rw [callV_st hC.c1]
    have e1 := end_r h ⟨100, 0, m.p, m.r, false⟩
    have g : ∀ X, (Put s b X).get qs = some (.row 1 [[P b]] false) := fun X => by rw [get_put_ne (ne_row h h2 (by omega))]; exact h2
    show splice_Splice_Tell_fn1.v (P qs) s = _
    simp only [splice_Splice_Tell_fn1.v, splice_Splice_Tell_fn1.t, sy, reduceIte, Nat.reduceAdd, Nat.reduceLeDiff, Nat.reduceLT, Nat.reduceEqDiff, Int.reduceEq, Int.reduceLT, Int.reduceLE, Int.reduceNe, ly, ldc_row h2, lda_row h, e1, ldc_row (g _), lda_put h, sameP, same5 m.p, same5 m.r]
  | next =>
    obtain ⟨qs, rfl, h2⟩ := ht
    have hm := S6_more s m.p
    have hN : Row (S6 s m.p) b (urow c m lp fv0) := hm.get hf h
    have h2N := hm.get hf h2
    have hP := S6_put s m.p
    have hO := S6_o s m.p
    have hfN := hm.fresh hf
    have hsn : s.n ≠ b := by have := hf.lt h; omega
    have e0 : alv s (.agg ⟨zR.cs⟩) = some (P s.n, s.new (.row 5 [zR.cs] false)) := rfl
    generalize S6 s m.p = s6 at *
    have g : ∀ X, (Put s6 b X).get qs = some (.row 1 [[P b]] false) := fun X => by rw [get_put_ne (ne_row hN h2N (by omega))]; exact h2N
    refine ⟨Put s6 b (urow c (runC m .next) (P s.n) fv0), ?_, ⟨P s.n, fv0, get_put_same hN, ⟨s.n, false, rfl, by rw [get_put_ne hsn]; exact hO⟩, fun e => by simp [runC] at e⟩, (Stp.more hm).trans .put⟩
    rw [callV_st hC.c5]
    show splice_Splice_look_fn1.v (P qs) s = _
    simp only [splice_Splice_look_fn1.v, splice_Splice_look_fn1.t, sy, reduceIte, Nat.reduceAdd, Nat.reduceLeDiff, Nat.reduceLT, Nat.reduceEqDiff, Int.reduceEq, Int.reduceLT, Int.reduceLE, Int.reduceNe, ly, ldc_row h2, lda_row h, e0, hP, ldc_row h2N, lda_row hN, stv_row hN, stv_put hN, ldc_row (g _), sameP, runC]
theorem free_r {s : St} {b : Nat} {c : Cf} {m : Mm} {lp fv fv0 : Value} {t : Th} (hf : Fresh s) (h : Row s b (urow c m lp fv0)) (hl : LastOk s lp m.last) (ht : ThOk s b fv t) :
    ∃ s', splice_Splice_free.v (P b) fv s = some (unit', s') ∧ At c (freeC m t) s' b ∧ Stp b s s' := by
  unfold freeC
  by_cases hp : m.pd = true
  · obtain ⟨s', r1, r2, r3⟩ := run_r free_ctx hf h hl ht
    refine ⟨s', ?_, by rw [if_pos hp]; exact r2, r3⟩
    simp only [splice_Splice_free.v, splice_Splice_free.t, sy, reduceIte, Nat.reduceAdd, Nat.reduceLeDiff, Nat.reduceLT, Nat.reduceEqDiff, Int.reduceEq, Int.reduceLT, Int.reduceLE, Int.reduceNe, ly, ldc_row h, hp, r1]
  · refine ⟨Put s b (urow c { m with at' := 8, th := t } lp fv), ?_, by rw [if_neg hp]; exact ⟨lp, fv, get_put_same h, hl.stp h hf .put, fun _ => ht.stp h hf .put⟩, .put⟩
    have hbx : bx fv = some [fv] := by
      cases t with
      | no => exact ht.elim
      | fin r => rcases ht with ⟨_, _, _, _, rfl, _⟩ | ⟨_, _, rfl, _⟩ <;> rfl
      | wait => obtain ⟨_, rfl, _⟩ := ht; rfl
      | next => obtain ⟨_, rfl, _⟩ := ht; rfl
      | ex => obtain ⟨_, rfl, _⟩ := ht; rfl
    simp only [splice_Splice_free.v, splice_Splice_free.t, sy, reduceIte, Nat.reduceAdd, Nat.reduceLeDiff, Nat.reduceLT, Nat.reduceEqDiff, Int.reduceEq, Int.reduceLT, Int.reduceLE, Int.reduceNe, ly, ldc_row h, stv_row h, stv_put h, hp, hbx]
theorem fail_r {s : St} {b : Nat} {c : Cf} {m : Mm} {lp fv : Value} (hf : Fresh s) (h : Row s b (urow c m lp fv)) (hl : LastOk s lp m.last) (e : Int) :
    ∃ s', splice_Splice_fail.v (P b) (.int .i64 e) s = some (unit', s') ∧ At c (freeC m (.fin (finR e))) s' b ∧ Stp b s s' := by
  have m1 : More s (s.new (.row 1 [[P b]] false)) := .new
  have m2 : More (s.new (.row 1 [[P b]] false)) ((s.new (.row 1 [[P b]] false)).new (.row 1 [[.int .i64 e]] false)) := .new
  have mm := m1.trans m2
  have q1 : ((s.new (.row 1 [[P b]] false)).new (.row 1 [[.int .i64 e]] false)).get s.n = some (.row 1 [[P b]] false) := m2.get hf.new get_new_same
  have q2 : ((s.new (.row 1 [[P b]] false)).new (.row 1 [[.int .i64 e]] false)).get (s.n + 1) = some (.row 1 [[.int .i64 e]] false) := get_new_same
  have e1 : alv s (P b) = some (P s.n, s.new (.row 1 [[P b]] false)) := rfl
  have e2 : alv (s.new (.row 1 [[P b]] false)) (.int .i64 e) = some (P (s.n + 1), (s.new (.row 1 [[P b]] false)).new (.row 1 [[.int .i64 e]] false)) := rfl
  generalize (s.new (.row 1 [[P b]] false)).new (.row 1 [[.int .i64 e]] false) = s2 at *
  obtain ⟨s', r1, r2, r3⟩ := free_r (t := .fin (finR e)) (mm.fresh hf) (mm.get hf h) (hl.stp h hf (.more mm)) (.inl ⟨s.n, s.n + 1, e, rfl, rfl, q1, q2⟩)
  refine ⟨s', ?_, r2, (Stp.more mm).trans r3⟩
  simp only [splice_Splice_fail.v, splice_Splice_fail.t, sy, reduceIte, Nat.reduceAdd, Nat.reduceLeDiff, Nat.reduceLT, Nat.reduceEqDiff, Int.reduceEq, Int.reduceLT, Int.reduceLE, Int.reduceNe, ly, e1, e2, ldc_row q1, r1]
theorem wait_r {s : St} {b : Nat} {c : Cf} {m : Mm} {lp fv : Value} (hf : Fresh s) (h : Row s b (urow c m lp fv)) (hl : LastOk s lp m.last) :
    ∃ s', splice_Splice_wait.v (P b) s = some (unit', s') ∧ At c (freeC m .wait) s' b ∧ Stp b s s' := by
  have mm : More s (s.new (.row 1 [[P b]] false)) := .new
  have q1 : (s.new (.row 1 [[P b]] false)).get s.n = some (.row 1 [[P b]] false) := get_new_same
  have e1 : alv s (P b) = some (P s.n, s.new (.row 1 [[P b]] false)) := rfl
  generalize s.new (.row 1 [[P b]] false) = s2 at *
  obtain ⟨s', r1, r2, r3⟩ := free_r (t := .wait) (mm.fresh hf) (mm.get hf h) (hl.stp h hf (.more mm)) ⟨s.n, rfl, q1⟩
  refine ⟨s', ?_, r2, (Stp.more mm).trans r3⟩
  simp only [splice_Splice_wait.v, splice_Splice_wait.t, sy, reduceIte, Nat.reduceAdd, Nat.reduceLeDiff, Nat.reduceLT, Nat.reduceEqDiff, Int.reduceEq, Int.reduceLT, Int.reduceLE, Int.reduceNe, ly, e1, ldc_row q1, r1]
theorem look_r {s : St} {b : Nat} {c : Cf} {m : Mm} {lp fv : Value} (hf : Fresh s) (h : Row s b (urow c m lp fv)) (hl : LastOk s lp m.last) :
    ∃ s', splice_Splice_look.v (P b) s = some (unit', s') ∧ At c (lookC c m) s' b ∧ Stp b s s' := by
  have mm : More s (s.new (.row 1 [[P b]] false)) := .new
  have q1 : (s.new (.row 1 [[P b]] false)).get s.n = some (.row 1 [[P b]] false) := get_new_same
  have e1 : alv s (P b) = some (P s.n, s.new (.row 1 [[P b]] false)) := rfl
  generalize s.new (.row 1 [[P b]] false) = s1 at *
  have h1 : Row s1 b (urow c m lp fv) := mm.get hf h
  have hl1 := hl.stp h hf (.more mm)
  have hf1 := mm.fresh hf
  have l1 := less_r m.p.rk m.p.n m.r.rk m.r.n s1
  have l2 := less_r m.r.rk m.r.n c.me.rk c.me.n s1
  unfold lookC
  by_cases k1 : lessR m.p m.r
  · have k1' : lessK m.p.rk m.p.n m.r.rk m.r.n := k1
    by_cases k2 : lessR m.r c.me
    · have k2' : lessK m.r.rk m.r.n c.me.rk c.me.n := k2
      obtain ⟨s', r1, r2, r3⟩ := free_r (t := .next) hf1 h1 hl1 ⟨s.n, rfl, q1⟩
      refine ⟨s', ?_, by rw [if_neg (not_not_intro k1), if_pos k2]; exact r2, (Stp.more mm).trans r3⟩
      simp only [splice_Splice_look.v, splice_Splice_look.t, splice_Splice_look.t.p1, sy, reduceIte, Nat.reduceAdd, Nat.reduceLeDiff, Nat.reduceLT, Nat.reduceEqDiff, Int.reduceEq, Int.reduceLT, Int.reduceLE, Int.reduceNe, ly, e1, ldc_row q1, lda_row h1, l1, l2, k1', k2', r1]
    · have k2' : ¬ lessK m.r.rk m.r.n c.me.rk c.me.n := k2
      by_cases k3 : sameK m.r c.me
      · have k3a : (m.r.rk = c.me.rk) = True := eq_true k3.1
        have k3b : (m.r.n = c.me.n) = True := eq_true k3.2
        by_cases k4 : 0 < c.wl
        · obtain ⟨s', r1, r2, r3⟩ := wait_r hf1 h1 hl1
          refine ⟨s', ?_, by rw [if_neg (not_not_intro k1), if_neg k2, if_neg (not_not_intro k3), if_pos k4]; exact r2, (Stp.more mm).trans r3⟩
          simp only [splice_Splice_look.v, splice_Splice_look.t, splice_Splice_look.t.p1, sy, reduceIte, Nat.reduceAdd, Nat.reduceLeDiff, Nat.reduceLT, Nat.reduceEqDiff, Int.reduceEq, Int.reduceLT, Int.reduceLE, Int.reduceNe, ly, e1, ldc_row q1, ldc_row h1, lda_row h1, l1, l2, k1', k2', k3a, k3b, k4, r1]
        · refine ⟨Put s1 b (urow c { m with at' := 2 } lp fv), ?_, by rw [if_neg (not_not_intro k1), if_neg k2, if_neg (not_not_intro k3), if_neg k4]; exact At.put (m := { m with at' := 2 }) h1 hf1 hl1 (by simp), (Stp.more mm).trans .put⟩
          simp only [splice_Splice_look.v, splice_Splice_look.t, splice_Splice_look.t.p1, sy, reduceIte, Nat.reduceAdd, Nat.reduceLeDiff, Nat.reduceLT, Nat.reduceEqDiff, Int.reduceEq, Int.reduceLT, Int.reduceLE, Int.reduceNe, ly, e1, ldc_row q1, ldc_row h1, lda_row h1, stv_row h1, l1, l2, k1', k2', k3a, k3b, k4]
      · refine ⟨Put s1 b (urow c { m with at' := 3 } lp fv), ?_, by rw [if_neg (not_not_intro k1), if_neg k2, if_pos k3]; exact At.put (m := { m with at' := 3 }) h1 hf1 hl1 (by simp), (Stp.more mm).trans .put⟩
        by_cases k3a : m.r.rk = c.me.rk
        · have k3b : (m.r.n = c.me.n) = False := eq_false fun e => k3 ⟨k3a, e⟩
          have k3a' : (m.r.rk = c.me.rk) = True := eq_true k3a
          simp only [splice_Splice_look.v, splice_Splice_look.t, splice_Splice_look.t.p1, sy, reduceIte, Nat.reduceAdd, Nat.reduceLeDiff, Nat.reduceLT, Nat.reduceEqDiff, Int.reduceEq, Int.reduceLT, Int.reduceLE, Int.reduceNe, ly, e1, ldc_row q1, ldc_row h1, lda_row h1, stv_row h1, l1, l2, k1', k2', k3a', k3b]
        · by_cases k3b : m.r.n = c.me.n
          · have k3b' : (m.r.n = c.me.n) = True := eq_true k3b
            simp only [splice_Splice_look.v, splice_Splice_look.t, splice_Splice_look.t.p1, sy, reduceIte, Nat.reduceAdd, Nat.reduceLeDiff, Nat.reduceLT, Nat.reduceEqDiff, Int.reduceEq, Int.reduceLT, Int.reduceLE, Int.reduceNe, ly, e1, ldc_row q1, ldc_row h1, lda_row h1, stv_row h1, l1, l2, k1', k2', k3a, k3b']
          · simp only [splice_Splice_look.v, splice_Splice_look.t, splice_Splice_look.t.p1, sy, reduceIte, Nat.reduceAdd, Nat.reduceLeDiff, Nat.reduceLT, Nat.reduceEqDiff, Int.reduceEq, Int.reduceLT, Int.reduceLE, Int.reduceNe, ly, e1, ldc_row q1, ldc_row h1, lda_row h1, stv_row h1, l1, l2, k1', k2', k3a, k3b]
  · have k1' : ¬ lessK m.p.rk m.p.n m.r.rk m.r.n := k1
    obtain ⟨s', r1, r2, r3⟩ := fail_r hf1 h1 hl1 131
    refine ⟨s', ?_, by rw [if_pos k1]; exact r2, (Stp.more mm).trans r3⟩
    simp only [splice_Splice_look.v, splice_Splice_look.t, splice_Splice_look.t.p1, sy, reduceIte, Nat.reduceAdd, Nat.reduceLeDiff, Nat.reduceLT, Nat.reduceEqDiff, Int.reduceEq, Int.reduceLT, Int.reduceLE, Int.reduceNe, ly, e1, ldc_row q1, lda_row h1, l1, l2, k1', r1]
end Go.Proofs.Yteiagjbjokldgaa
