/-
  The machine of package scan in memory: who is at hand answers; Tell, Wake.
-/
import Derived.Test.YtmobdijoaebilaaScnB
set_option linter.unusedSimpArgs false
set_option linter.unusedVariables false
set_option maxRecDepth 100000
set_option maxHeartbeats 2000000
namespace Go.Proofs.Ytmobdijoaebilaa
open Go.Sim Go.Sim.Bt
attribute [local congr] bdc cndc itec gdc gdSc gdUc

/-- What is behind it is looked for, or taken in hand. -/
theorem tail_facts {c : SC} {m : Sc} {s : St} {p N box : Nat} {iv : Value} {sp : Value} {rows : List (List Value)} {b q : Nat} (f : Fresh s) (hb : 0 ≤ c.st.bt) (hbox : s.get box = some (.row 1 [[P p]] false))
    (h : SRow s p (srow c m sp iv nilV)) (h1 : m.hs = true → sp = P b) (h2 : m.hs = false → sp = nilP) (hA : At (c.sk m.sr m.sn) m.ms s b q) (hF : Ful 0 s 2 iv rows) (hI : ItR s rows m.its) (hri : m.ri = [])
    (ov : m.ov = false) (w : m.w = false) (hms : InvS m.ms) (hg : InvG (c.sk m.sr m.sn) m.ms) (ht : m.ms.tab.length ≤ N) (okS : okC (c.sk m.sr m.sn)) (okF : okC (c.sk m.fr m.fn)) (srk : m.sr = 2 ∨ m.sr = 3) (tr : 0 ≤ m.tr) (so : m.so = true → m.hs = true) (its : m.its.length ≤ 64) (hx : m.x.rk = 2) (a : Ans) :
    ∃ s3 s4, callV scan_Scan_has.ctx (.func (.func 64) ⟨[]⟩ ⟨[P box]⟩) [] s = some (KV (nextR m.x.n) (nextN m.x.n), s) ∧ stv s 2 (.pointer (some ⟨p, 0, some 8⟩)) (KV (nextR m.x.n) (nextN m.x.n)) = some s3 ∧
      s3.get box = some (.row 1 [[P p]] false) ∧ SRow s3 p (srow c { m with fr := nextR m.x.n, fn := nextN m.x.n } sp iv nilV) ∧
      ((lessK m.x.rk m.x.n a.r.rk a.r.n ∧ key_Less.r (KV m.x.rk m.x.n) (KV a.r.rk a.r.n) s3 = some (.bool true) ∧ scan_Scan_takes.v (P p) (.agg ⟨a.r.cs⟩) (.bool false) s3 = some (unit', s4) ∧ AtS c (takesS c { m with fr := nextR m.x.n, fn := nextN m.x.n } a.r false) s4 p N iv ∧ StS iv iv s s4) ∨
       (¬ lessK m.x.rk m.x.n a.r.rk a.r.n ∧ key_Less.r (KV m.x.rk m.x.n) (KV a.r.rk a.r.n) s3 = some (.bool false) ∧ scan_Scan_again.v (P p) s3 = some (unit', s4) ∧ AtS c (againS c { m with fr := nextR m.x.n, fn := nextN m.x.n }) s4 p N iv ∧ StS iv iv s s4)) := by
  have hbh := behind_r hbox h hx
  obtain ⟨s3, hs3⟩ : ∃ s3, s3 = SPut s p (srow c { m with fr := nextR m.x.n, fn := nextN m.x.n } sp iv nilV) := ⟨_, rfl⟩
  have e3 : stv s 2 (.pointer (some ⟨p, 0, some 8⟩)) (KV (nextR m.x.n) (nextN m.x.n)) = some s3 := by rw [hs3]; simp only [stv_row h, sy, reduceIte, Nat.reduceAdd, Nat.reduceLeDiff, Nat.reduceLT, Nat.reduceEqDiff, Int.reduceEq, Int.reduceLT, Int.reduceLE, Int.reduceNe, ly]
  have h3 : SRow s3 p (srow c { m with fr := nextR m.x.n, fn := nextN m.x.n } sp iv nilV) := by rw [hs3]; exact put_s h
  have k3 : StpK [37] s s3 := by rw [hs3]; exact .put h (by simp [kd])
  have f3 := k3.2.2 f
  have hA3 := hA.stp k3 (by simp) (by simp)
  have hF3 := hF.stp k3 (by simp)
  have hI3 := hI.stp k3 (by simp)
  have okF3 := okC_fn okF m.x.n
  have l1 := less_r m.x.rk m.x.n a.r.rk a.r.n s3
  have cv : callV scan_Scan_has.ctx (.func (.func 64) ⟨[]⟩ ⟨[P box]⟩) [] s = some (KV (nextR m.x.n) (nextN m.x.n), s) := by
    rw [callV_rd (g := scan_Scan_has_fn1.w) rfl]
    show (scan_Scan_has_fn1.r (P box) s).map _ = _
    rw [hbh]
    rfl
  by_cases k : lessK m.x.rk m.x.n a.r.rk a.r.n
  · rw [decide_eq_true k] at l1
    obtain ⟨s4, t1, t2, t3, _⟩ := takes_at (m := { m with fr := nextR m.x.n, fn := nextN m.x.n }) (so' := false) (x := a.r) h3 h1 h2 hA3 hF3 hI3 rfl hri ov hms hg ht okS okF3 srk tr its (fun e => by cases e) (by unfold lessK at k; omega)
    exact ⟨s3, s4, cv, e3, k3.row hbox (by simp), h3, .inl ⟨k, l1, t1, t2, .of ((k3.trans t3).mono (by simp))⟩⟩
  · rw [decide_eq_false k] at l1
    obtain ⟨s4, t1, t2, t3⟩ := again_at (m := { m with fr := nextR m.x.n, fn := nextN m.x.n }) (cf := c.sk 0 0) f3 hb h3 h1 h2 hA3 hF3 hI3 rfl hri ov w hms hg ht okS okF3 srk tr so its
    exact ⟨s3, s4, cv, e3, k3.row hbox (by simp), h3, .inr ⟨k, l1, t1, t2, (StpI.of (k3.mono (by simp))).trans f t3⟩⟩
theorem has_at {c : SC} {m : Sc} {s : St} {p N : Nat} {iv : Value} (f : Fresh s) (hb : 0 ≤ c.st.bt) (hat : AtS c m s p N iv) (hh : handS m) (hri : m.ri = []) (a : Ans) {al : List (List Value)} (hB : Byt s a.v al) (hal : al.length ≤ 10000000) :
    ∃ s' iv', scan_Scan_has.v (P p) (.agg ⟨a.cs⟩) s = some (unit', s') ∧ AtS c (hasS c m a al) s' p N iv' ∧ StS iv iv' s s' := by
  obtain ⟨b, q, sp, riv, rows, rrows, h, h1, h2, hA, hF, hI, hR, hIr, hrn⟩ := hat.ex
  have hi := hat.inv
  have hx := hi.x hh
  obtain ⟨ov, w, hsk⟩ := hh
  have hrn := hrn ov
  subst hrn
  have bxv := hB.bx
  have ea0 : alv s (P p) = some (P s.n, s.new (.row 1 [[P p]] false)) := rfl
  have m1 : More s (s.new (.row 1 [[P p]] false)) := .new
  have g1 : (s.new (.row 1 [[P p]] false)).get s.n = some (.row 1 [[P p]] false) := get_new_same
  have f1 := m1.fresh f
  have k1 : StpK [] s (s.new (.row 1 [[P p]] false)) := .more m1 f
  generalize s.new (.row 1 [[P p]] false) = s1 at *
  have r1 := k1.row h (by simp)
  have hA1 := hA.stp k1 (by simp) (by simp)
  have hF1 := hF.stp k1 (by simp)
  have hI1 := hI.stp k1 (by simp)
  have hlen : lenL iv = some (.int .i64 m.its.length) := by rw [hF1.isR.len, hI.1]
  have samep : ∀ {b : Nat}, sameV (P b) (P b) = true := fun {_} => by simp [sameV]
  unfold hasS
  cases hf : a.f with
  | true =>
    have hh1 : has1 m a al = { m with fr := nextR m.x.n, fn := nextN m.x.n } := by simp [has1, hf]
    rw [if_neg (by simp), hh1]
    obtain ⟨s3, s4, t1, t2, t3, t4, t5⟩ := tail_facts f1 hb g1 r1 h1 h2 hA1 hF1 hI1 hri ov w hi.ms hi.g hi.tab hi.okS hi.okF hi.srk hi.tr hi.so hi.its hx a
    rcases t5 with ⟨u1, u2, u3, u4, u5⟩ | ⟨u1, u2, u3, u4, u5⟩
    · rw [if_pos u1]
      refine ⟨s4, iv, ?_, u4, (StpI.of (k1.mono (by simp))).trans f u5⟩
      simp only [scan_Scan_has.v, scan_Scan_has.t, sy, reduceIte, Nat.reduceAdd, Nat.reduceLeDiff, Nat.reduceLT, Nat.reduceEqDiff, Int.reduceEq, Int.reduceLT, Int.reduceLE, Int.reduceNe, ly, ea0, hf, ldc_row g1, t1, samep, t2, ldc_row t3, lda_row t4, u2, u3]
    · rw [if_neg u1]
      refine ⟨s4, iv, ?_, u4, (StpI.of (k1.mono (by simp))).trans f u5⟩
      simp only [scan_Scan_has.v, scan_Scan_has.t, sy, reduceIte, Nat.reduceAdd, Nat.reduceLeDiff, Nat.reduceLT, Nat.reduceEqDiff, Int.reduceEq, Int.reduceLT, Int.reduceLE, Int.reduceNe, ly, ea0, hf, ldc_row g1, t1, samep, t2, ldc_row t3, lda_row t4, u2, u3]
  | false =>
    rcases Classical.propComplete (64 ≤ (m.its.length : Int)) with k64 | k64
    · rw [if_pos ⟨rfl, by have := of_eq_true k64; omega⟩]
      have e1 := ends_s (l := []) (w := nilV) r1 102 rfl
      have kp : StpK [37] s1 (SPut s1 p (srow c (endsS m 102 []) sp iv nilV)) := .put r1 (by simp [kd])
      refine ⟨_, iv, ?_, ⟨⟨b, q, sp, nilV, rows, [], put_s r1, h1, h2, hA1.stp kp (by simp) (by simp), hF1.stp kp (by simp), hI1.stp kp (by simp), .nil, .nil, fun _ => rfl⟩, ⟨hi.ms, hi.g, hi.tab, hi.okS, hi.okF, hi.srk, hi.tr, hi.so, (fun e => by simp [endsS, handS] at e), hi.its, by simp [endsS]⟩⟩, (StpI.of (k1.mono (by simp))).trans f (.of (kp.mono (by simp)))⟩
      simp only [scan_Scan_has.v, scan_Scan_has.t, scan_Scan_has.t.p1, sy, reduceIte, Nat.reduceAdd, Nat.reduceLeDiff, Nat.reduceLT, Nat.reduceEqDiff, Int.reduceEq, Int.reduceLT, Int.reduceLE, Int.reduceNe, ly, ea0, hf, ldc_row g1, ldc_row r1, hlen, k64, e1, Nat.one_ne_zero]
    · have k64' := of_eq_false k64
      rw [if_neg (by rintro ⟨_, g⟩; omega)]
      have hB1 := hB.stp k1 (by simp)
      obtain ⟨cw, s2, c1, c2, c3⟩ := sclone_r f1 hB1 (by omega)
      have k2 : StpK [] s1 s2 := .more c2 f1
      have f2 := c2.fresh f1
      have g2 := k2.row g1 (by simp)
      have r2 := k2.row r1 (by simp)
      have hF2 := hF1.stp k2 (by simp)
      have hI2 := hI1.stp k2 (by simp)
      have hA2 := hA1.stp k2 (by simp) (by simp)
      have bxc := c3.bx
      have hrl : rows.length = m.its.length := hI.1
      obtain ⟨iv', s3, p1, p2, p3, p4, p5⟩ := pushI f2 hF2 (Nat.zero_le _) (by_ := 32) [.int .u64 m.x.n, cw] (by omega) (by omega)
      have k3 : StpK [2] s2 s3 := hF2.toK p4
      have g3 := k3.row g2 (by simp)
      have r3 := k3.row r2 (by simp)
      have hA3 := hA2.stp k3 (by simp) (by simp)
      have hI3 : ItR s3 (rows ++ [[.int .u64 m.x.n, cw]]) (m.its ++ [⟨m.x.n, al⟩]) := (hI2.stp k3 (by simp)).push (it := ⟨m.x.n, al⟩) (c3.stp k3 (by simp))
      have bxi := p2.isR.bx
      have smi := hF2.isR.same
      obtain ⟨s4, hs4⟩ : ∃ s4, s4 = SPut s3 p (srow c { m with its := m.its ++ [⟨m.x.n, al⟩] } sp iv' nilV) := ⟨_, rfl⟩
      have e4 : stv s3 1 (.pointer (some ⟨p, 0, some 18⟩)) iv' = some s4 := by rw [hs4]; simp only [stv_row r3, sy, reduceIte, Nat.reduceAdd, Nat.reduceLeDiff, Nat.reduceLT, Nat.reduceEqDiff, Int.reduceEq, Int.reduceLT, Int.reduceLE, Int.reduceNe, ly, bxi]
      have r4 : SRow s4 p (srow c { m with its := m.its ++ [⟨m.x.n, al⟩] } sp iv' nilV) := by rw [hs4]; exact put_s r3
      have k4 : StpK [37] s3 s4 := by rw [hs4]; exact .put r3 (by simp [kd])
      have f4 := k4.2.2 p3
      have g4 := k4.row g3 (by simp)
      have hh1 : has1 m a al = { m with its := m.its ++ [⟨m.x.n, al⟩], fr := nextR m.x.n, fn := nextN m.x.n } := by simp [has1, hf]
      have tf := tail_facts (m := { m with its := m.its ++ [⟨m.x.n, al⟩] }) f4 hb g4 r4 h1 h2 (hA3.stp k4 (by simp) (by simp)) (p2.stp k4 (by simp)) (hI3.stp k4 (by simp)) hri ov w hi.ms hi.g hi.tab hi.okS hi.okF hi.srk hi.tr hi.so (by simp; omega) hx a
      obtain ⟨s5, s6, t1, t2, t3, t4, t5⟩ := tf
      have st : StS iv iv' s s4 := ((StpI.of ((k1.trans k2).mono (by simp))).trans f (p4.mono (by simp))).trans f (.of (k4.mono (by simp)))
      rw [hh1]
      rcases t5 with ⟨u1, u2, u3, u4, u5⟩ | ⟨u1, u2, u3, u4, u5⟩
      · have u1' : lessK m.x.rk m.x.n a.r.rk a.r.n := u1
        rw [if_pos u1']
        refine ⟨s6, iv', ?_, u4, st.trans f u5⟩
        simp only [scan_Scan_has.v, scan_Scan_has.t, scan_Scan_has.t.p1, sy, reduceIte, Nat.reduceAdd, Nat.reduceLeDiff, Nat.reduceLT, Nat.reduceEqDiff, Int.reduceEq, Int.reduceLT, Int.reduceLE, Int.reduceNe, ly, ea0, hf, ldc_row g1, ldc_row r1, hlen, k64, bxv, c1, ldc_row g2, ldc_row r2, samep, smi, sameII, bxc, als_eq, Nat.reduceMul, p1, ldc_row g3, ldc_row r3, e4, ldc_row g4, t1, t2, ldc_row t3, lda_row t4, u2, u3]
      · have u1' : ¬ lessK m.x.rk m.x.n a.r.rk a.r.n := u1
        rw [if_neg u1']
        refine ⟨s6, iv', ?_, u4, st.trans f u5⟩
        simp only [scan_Scan_has.v, scan_Scan_has.t, scan_Scan_has.t.p1, sy, reduceIte, Nat.reduceAdd, Nat.reduceLeDiff, Nat.reduceLT, Nat.reduceEqDiff, Int.reduceEq, Int.reduceLT, Int.reduceLE, Int.reduceNe, ly, ea0, hf, ldc_row g1, ldc_row r1, hlen, k64, bxv, c1, ldc_row g2, ldc_row r2, samep, smi, sameII, bxc, als_eq, Nat.reduceMul, p1, ldc_row g3, ldc_row r3, e4, ldc_row g4, t1, t2, ldc_row t3, lda_row t4, u2, u3]
end Go.Proofs.Ytmobdijoaebilaa
