/-
  The machine of package scan in memory: Tell, Wake, Next, New.
-/
import Derived.Test.YtmobdijoaebilaaScnC
set_option linter.unusedSimpArgs false
set_option linter.unusedVariables false
set_option maxRecDepth 100000
set_option maxHeartbeats 2000000
namespace Go.Proofs.Ytmobdijoaebilaa
open Go.Sim Go.Sim.Bt
attribute [local congr] bdc cndc itec gdc gdSc gdUc

theorem AtS.ri {c : SC} {m : Sc} {s : St} {p N : Nat} {iv : Value} (h : AtS c m s p N iv) (ov : m.ov = false) : m.ri = [] := by
  obtain ⟨b, q, sp, riv, rows, rrows, _, _, _, _, _, _, hR, hIr, hrn⟩ := h.ex
  rw [hrn ov] at hR
  rcases hR with ⟨_, rfl⟩ | ⟨_, _, _, _, e, _⟩
  · have := hIr.1; simp at this; exact List.eq_nil_of_length_eq_zero this.symm
  · cases e
theorem AtS.le {c : SC} {m : Sc} {s : St} {p N N' : Nat} {iv : Value} (h : AtS c m s p N iv) (hn : N ≤ N') : AtS c m s p N' iv :=
  ⟨h.ex, ⟨h.inv.ms, h.inv.g, by have := h.inv.tab; omega, h.inv.okS, h.inv.okF, h.inv.srk, h.inv.tr, h.inv.so, h.inv.x, h.inv.its, h.inv.ril⟩⟩
theorem AtS.stp {ks : List Nat} {c : SC} {m : Sc} {s s' : St} {p N : Nat} {iv : Value} (h : AtS c m s p N iv) (k : StpK ks s s') (h1 : 37 ∉ ks) (h2 : 40 ∉ ks) (h3 : 1000 ∉ ks) (h4 : 2 ∉ ks) (h5 : 1 ∉ ks) : AtS c m s' p N iv := by
  obtain ⟨b, q, sp, riv, rows, rrows, g1, g2, g3, g4, g5, g6, g7, g8, g9⟩ := h.ex
  exact ⟨⟨b, q, sp, riv, rows, rrows, k.row g1 h1, g2, g3, g4.stp k h2 h3, g5.stp k h4, g6.stp k h5, g7.stp k h4, g8.stp k h5, g9⟩, h.inv⟩
theorem is_s {s : St} {p : Nat} {c : SC} {m : Sc} {sp iv riv : Value} (h : SRow s p (srow c m sp iv riv)) : scan_Scan_is.r (P p) s = some (.bool true) := by
  simp only [scan_Scan_is.r, scan_Scan_is.t, sy, reduceIte, Nat.reduceAdd, Nat.reduceLeDiff, Nat.reduceLT, Nat.reduceEqDiff, Int.reduceEq, Int.reduceLT, Int.reduceLE, Int.reduceNe, ly, ldc_row h]
theorem tries_s {s : St} {p N : Nat} {c : SC} {m : Sc} {iv : Value} (hat : AtS c m s p N iv) : scan_Scan_Tries.r (P p) s = some (.int .i64 m.tr) := by
  obtain ⟨b, q, sp, riv, rows, rrows, h, _⟩ := hat.ex
  have i := is_s h
  simp only [scan_Scan_Tries.r, scan_Scan_Tries.t, sy, reduceIte, Nat.reduceAdd, Nat.reduceLeDiff, Nat.reduceLT, Nat.reduceEqDiff, Int.reduceEq, Int.reduceLT, Int.reduceLE, Int.reduceNe, ly, ldc_row h, i]
theorem got_at {c : SC} {m : Sc} {s : St} {p N : Nat} {iv : Value} (f : Fresh s) (hb : 0 ≤ c.st.bt) (hat : AtS c m s p N iv) (hh : handS m) (a : Ans) {al : List (List Value)} (hB : Byt s a.v al) (hal : al.length ≤ 10000000) :
    ∃ s' iv', scan_Scan_got.v (P p) (.agg ⟨a.cs⟩) s = some (unit', s') ∧ AtS c (gotS c m a al) s' p (N + 1) iv' ∧ StS iv iv' s s' := by
  have hri := hat.ri hh.1
  unfold gotS
  rcases Classical.propComplete (a.k = 1) with k1 | k1
  · rw [if_pos (of_eq_true k1)]
    obtain ⟨s1, iv', e1, h1, st1⟩ := has_at f hb hat hh hri a hB hal
    exact ⟨s1, iv', by simp only [scan_Scan_got.v, scan_Scan_got.t, sy, reduceIte, Nat.reduceAdd, Nat.reduceLeDiff, Nat.reduceLT, Nat.reduceEqDiff, Int.reduceEq, Int.reduceLT, Int.reduceLE, Int.reduceNe, ly, k1, e1], h1.le (by omega), st1⟩
  · rw [if_neg (of_eq_false k1)]
    obtain ⟨b, q, sp, riv, rows, rrows, h, h1, h2, hA, hF, hI, hR, hIr, hrn⟩ := hat.ex
    have hi := hat.inv
    obtain ⟨ov, w, hsk⟩ := hh
    have hrn := hrn ov
    subst hrn
    have wait : (a.k = 3 ∧ m.so = true → False) → ∃ s' iv', scan_Scan_got.v (P p) (.agg ⟨a.cs⟩) s = some (unit', s') ∧ AtS c { m with w := true } s' p (N + 1) iv' ∧ StS iv iv' s s' := by
      intro hno
      have kp : StpK [37] s (SPut s p (srow c { m with w := true } sp iv nilV)) := .put h (by simp [kd])
      refine ⟨_, iv, ?_, ⟨⟨b, q, sp, nilV, rows, rrows, put_s h, h1, h2, hA.stp kp (by simp) (by simp), hF.stp kp (by simp), hI.stp kp (by simp), hR.stp kp (by simp), hIr.stp kp (by simp), fun _ => rfl⟩, ⟨hi.ms, hi.g, by have := hi.tab; show m.ms.tab.length ≤ N + 1; omega, hi.okS, hi.okF, hi.srk, hi.tr, hi.so, (fun e => by have := e.2.1; cases this), hi.its, hi.ril⟩⟩, .of (kp.mono (by simp))⟩
      rcases Classical.propComplete (a.k = 3) with k3 | k3
      · have hso : m.so = false := by cases hb : m.so; rfl; exact (hno ⟨of_eq_true k3, hb⟩).elim
        simp only [scan_Scan_got.v, scan_Scan_got.t, sy, reduceIte, Nat.reduceAdd, Nat.reduceLeDiff, Nat.reduceLT, Nat.reduceEqDiff, Int.reduceEq, Int.reduceLT, Int.reduceLE, Int.reduceNe, ly, k1, k3, ldc_row h, hso, Nat.one_ne_zero, stv_row h]
      · simp only [scan_Scan_got.v, scan_Scan_got.t, sy, reduceIte, Nat.reduceAdd, Nat.reduceLeDiff, Nat.reduceLT, Nat.reduceEqDiff, Int.reduceEq, Int.reduceLT, Int.reduceLE, Int.reduceNe, ly, k1, k3, Nat.one_ne_zero, stv_row h]
    by_cases k3 : a.k = 3 ∧ m.so = true
    · rw [if_pos k3]
      have hs := hi.so k3.2
      have hsp := h1 hs
      subst hsp
      obtain ⟨s1, e1, hA1, st1⟩ := dead_f hA hi.ms.n0 a
      have kA := Stq.stp hA st1
      have fA := kA.2.2 f
      have r1 := kA.row h (by simp)
      obtain ⟨s2, hs2⟩ : ∃ s2, s2 = SPut s1 p (srow c { m with so := false } (P b) iv nilV) := ⟨_, rfl⟩
      have e2 : stv s1 1 (.pointer (some ⟨p, 0, some 16⟩)) (.bool false) = some s2 := by rw [hs2]; simp only [stv_row r1, sy, reduceIte, Nat.reduceAdd, Nat.reduceLeDiff, Nat.reduceLT, Nat.reduceEqDiff, Int.reduceEq, Int.reduceLT, Int.reduceLE, Int.reduceNe, ly]
      have r2 : SRow s2 p (srow c { m with so := false } (P b) iv nilV) := by rw [hs2]; exact put_s r1
      have kB : StpK [37] s1 s2 := by rw [hs2]; exact .put r1 (by simp [kd])
      have r2' : SRow s2 p (srow c { m with ms := deadF m.ms a, so := false } (P b) iv nilV) := r2
      obtain ⟨s3, e3, h3, k3s⟩ := found_at (m := { m with ms := deadF m.ms a, so := false }) (N := N + 1) r2' hs rfl (hA1.stp kB (by simp) (by simp)) ((hF.stp kA (by simp)).stp kB (by simp)) ((hI.stp kA (by simp)).stp kB (by simp)) rfl hri ov (inv_deadF hi.ms a) (invG_dead hi.g a) (by show (deadF m.ms a).tab.length ≤ N + 1; have := dead_tab (m := m.ms) a; have := hi.tab; omega) hi.okS hi.okF hi.srk hi.tr hi.its
      have k3' : (a.k = 3) = True := eq_true k3.1
      refine ⟨s3, iv, ?_, h3, .of (((kA.mono (by simp)).trans (kB.mono (by simp))).trans (k3s.mono (by simp)))⟩
      simp only [scan_Scan_got.v, scan_Scan_got.t, sy, reduceIte, Nat.reduceAdd, Nat.reduceLeDiff, Nat.reduceLT, Nat.reduceEqDiff, Int.reduceEq, Int.reduceLT, Int.reduceLE, Int.reduceNe, ly, k1, k3', ldc_row h, k3.2, e1, e2, e3, Nat.succ_ne_self]
    · rw [if_neg k3]
      exact wait k3
theorem tell_at {c : SC} {m : Sc} {s : St} {p N : Nat} {iv : Value} (f : Fresh s) (hb : 0 ≤ c.st.bt) (hat : AtS c m s p N iv) (a : Ans) {al : List (List Value)} (hB : Byt s a.v al) (hal : al.length ≤ 10000000) {D : Nat} {x : Option Rf} (hc : Chase m.ms.tab m.ms.wl m.ms.wb D (curF m.ms).rk (curF m.ms).n a.r x) (hD : D < BIG) :
    ∃ s' iv', scan_Scan_Tell.v (P p) (.agg ⟨a.cs⟩) s = some (unit', s') ∧ AtS c (tellS c m a al x) s' p (N + 1) iv' ∧ StS iv iv' s s' := by
  unfold tellS
  obtain ⟨b, q, sp, riv, rows, rrows, h, h1, h2, hA, hF, hI, hR, hIr, hrn⟩ := id hat.ex
  have hi := hat.inv
  have is := is_s h
  rcases Bool.eq_false_or_eq_true m.ov with ov | ov
  · rw [if_pos (.inl ov)]
    exact ⟨s, iv, by simp only [scan_Scan_Tell.v, scan_Scan_Tell.t, sy, reduceIte, Nat.reduceAdd, Nat.reduceLeDiff, Nat.reduceLT, Nat.reduceEqDiff, Int.reduceEq, Int.reduceLT, Int.reduceLE, Int.reduceNe, ly, is, ldc_row h, ov], hat.le (by omega), .of (.refl _ _)⟩
  · rcases Bool.eq_false_or_eq_true m.w with w | w
    · rw [if_pos (.inr w)]
      exact ⟨s, iv, by simp only [scan_Scan_Tell.v, scan_Scan_Tell.t, sy, reduceIte, Nat.reduceAdd, Nat.reduceLeDiff, Nat.reduceLT, Nat.reduceEqDiff, Int.reduceEq, Int.reduceLT, Int.reduceLE, Int.reduceNe, ly, is, ldc_row h, ov, w], hat.le (by omega), .of (.refl _ _)⟩
    · rw [if_neg (by rw [ov, w]; simp)]
      have hrn := hrn ov
      subst hrn
      have hri := hat.ri ov
      by_cases hsk : m.hs = true ∧ m.so = false
      · rw [if_pos hsk]
        obtain ⟨hs, so⟩ := hsk
        have hsp := h1 hs
        subst hsp
        obtain ⟨s1, e1, hA1, st1⟩ := tell_f hA hi.ms.n0 hi.ms.okw a hc hD
        have kA := Stq.stp hA st1
        have r1 : SRow s1 p (srow c { m with ms := tellF (c.sk m.sr m.sn) m.ms a x } (P b) iv nilV) := kA.row h (by simp)
        obtain ⟨s3, e3, h3, k3s⟩ := found_at (m := { m with ms := tellF (c.sk m.sr m.sn) m.ms a x }) (N := N + 1) r1 hs so hA1 (hF.stp kA (by simp)) (hI.stp kA (by simp)) rfl hri ov (inv_tellF hi.okS hi.ms a x) (invG_tell hi.g a (chase_ok hc)) (by show (tellF (c.sk m.sr m.sn) m.ms a x).tab.length ≤ N + 1; have := tell_tab (c := c.sk m.sr m.sn) (m := m.ms) (a := a) (x := x); have := hi.tab; omega) hi.okS hi.okF hi.srk hi.tr hi.its
        refine ⟨s3, iv, ?_, h3, .of ((kA.mono (by simp)).trans (k3s.mono (by simp)))⟩
        simp only [scan_Scan_Tell.v, scan_Scan_Tell.t, sy, reduceIte, Nat.reduceAdd, Nat.reduceLeDiff, Nat.reduceLT, Nat.reduceEqDiff, Int.reduceEq, Int.reduceLT, Int.reduceLE, Int.reduceNe, ly, is, ldc_row h, ov, w, so, e1, e3]
      · rw [if_neg hsk]
        obtain ⟨s1, iv', e1, g1, st1⟩ := got_at f hb hat ⟨ov, w, hsk⟩ a hB hal
        refine ⟨s1, iv', ?_, g1, st1⟩
        cases hs : m.hs with
        | true =>
          have so : m.so = true := by cases hb : m.so; exact absurd ⟨hs, hb⟩ hsk; rfl
          have hsp := h1 hs
          subst hsp
          simp only [scan_Scan_Tell.v, scan_Scan_Tell.t, sy, reduceIte, Nat.reduceAdd, Nat.reduceLeDiff, Nat.reduceLT, Nat.reduceEqDiff, Int.reduceEq, Int.reduceLT, Int.reduceLE, Int.reduceNe, ly, is, ldc_row h, ov, w, so, e1]
        | false =>
          have hsp := h2 hs
          subst hsp
          simp only [scan_Scan_Tell.v, scan_Scan_Tell.t, sy, reduceIte, Nat.reduceAdd, Nat.reduceLeDiff, Nat.reduceLT, Nat.reduceEqDiff, Int.reduceEq, Int.reduceLT, Int.reduceLE, Int.reduceNe, ly, is, ldc_row h, ov, w, e1]
theorem wake_at {c : SC} {m : Sc} {s : St} {p N : Nat} {iv : Value} (f : Fresh s) (hb : 0 ≤ c.st.bt) (hat : AtS c m s p N iv) :
    ∃ s', scan_Scan_Wake.v (P p) s = some (unit', s') ∧ AtS c (wakeS c m) s' p N iv ∧ StS iv iv s s' := by
  unfold wakeS
  obtain ⟨b, q, sp, riv, rows, rrows, h, h1, h2, hA, hF, hI, hR, hIr, hrn⟩ := id hat.ex
  have hi := hat.inv
  have is := is_s h
  rcases Bool.eq_false_or_eq_true m.ov with ov | ov
  · rw [if_neg (by rw [ov]; simp)]
    exact ⟨s, by simp only [scan_Scan_Wake.v, scan_Scan_Wake.t, sy, reduceIte, Nat.reduceAdd, Nat.reduceLeDiff, Nat.reduceLT, Nat.reduceEqDiff, Int.reduceEq, Int.reduceLT, Int.reduceLE, Int.reduceNe, ly, is, ldc_row h, ov], hat, .of (.refl _ _)⟩
  · rcases Bool.eq_false_or_eq_true m.w with w | w
    rotate_left
    · rw [if_neg (by rw [w]; simp)]
      exact ⟨s, by simp only [scan_Scan_Wake.v, scan_Scan_Wake.t, sy, reduceIte, Nat.reduceAdd, Nat.reduceLeDiff, Nat.reduceLT, Nat.reduceEqDiff, Int.reduceEq, Int.reduceLT, Int.reduceLE, Int.reduceNe, ly, is, ldc_row h, ov, w], hat, .of (.refl _ _)⟩
    · rw [if_pos ⟨ov, w⟩]
      have hrn := hrn ov
      subst hrn
      have hri := hat.ri ov
      obtain ⟨s1, hs1⟩ : ∃ s1, s1 = SPut s p (srow c { m with w := false } sp iv nilV) := ⟨_, rfl⟩
      have e1 : stv s 1 (.pointer (some ⟨p, 0, some 17⟩)) (.bool false) = some s1 := by rw [hs1]; simp only [stv_row h, sy, reduceIte, Nat.reduceAdd, Nat.reduceLeDiff, Nat.reduceLT, Nat.reduceEqDiff, Int.reduceEq, Int.reduceLT, Int.reduceLE, Int.reduceNe, ly]
      have r1 : SRow s1 p (srow c { m with w := false } sp iv nilV) := by rw [hs1]; exact put_s h
      have k1 : StpK [37] s s1 := by rw [hs1]; exact .put h (by simp [kd])
      obtain ⟨s2, e2, g2, st2⟩ := again_at (m := { m with w := false }) (cf := c.sk 0 0) (N := N) (k1.2.2 f) hb r1 h1 h2 (hA.stp k1 (by simp) (by simp)) (hF.stp k1 (by simp)) (hI.stp k1 (by simp)) rfl hri ov rfl hi.ms hi.g hi.tab hi.okS hi.okF hi.srk hi.tr hi.so hi.its
      refine ⟨s2, ?_, g2, (StpI.of (k1.mono (by simp))).trans f st2⟩
      simp only [scan_Scan_Wake.v, scan_Scan_Wake.t, sy, reduceIte, Nat.reduceAdd, Nat.reduceLeDiff, Nat.reduceLT, Nat.reduceEqDiff, Int.reduceEq, Int.reduceLT, Int.reduceLE, Int.reduceNe, ly, is, ldc_row h, ov, w, e1, e2]
/-- A step whose result bears items. -/
abbrev stepI (e : Int) (w : Value) : List Value :=
  [.int .i64 3, .int .i64 0, .int .i64 0, .int .u64 0, .int .i64 0, .int .u64 0,
   .int .i64 0, .int .i64 0, .int .u64 0, .int .i64 0, .int .i64 0, .int .u64 0, .int .i64 0, .int .u64 0, .int .i64 0, .int .i64 0, .int .u64 0, .int .i64 0, .int .u64 0, .int .i64 0, .int .i64 0,
   .int .i64 e, .int .u64 0, nilV, w, .int .i64 0, .int .i64 0, .int .u64 0, .int .i64 0, .int .u64 0, .int .i64 0, .int .i64 0, .int .u64 0, .int .i64 0, .int .u64 0, .bool false]
def nextS (m : Sc) (w : Value) : List Value :=
  if m.ov = true then stepI m.e w else if m.w = true then stepC 2 zR zAsk zRes else if m.hs = true ∧ m.so = false then nextC m.ms else stepC 1 m.x ⟨2, 0, 0, zR, zR, 0, 0⟩ zRes
theorem nextS_ov {m : Sc} (h : m.ov = true) (w : Value) : nextS m w = stepI m.e w := by unfold nextS; rw [if_pos h]
theorem nextS_w {m : Sc} (h : m.ov = false) (h2 : m.w = true) (w : Value) : nextS m w = stepC 2 zR zAsk zRes := by unfold nextS; rw [if_neg (by rw [h]; decide), if_pos h2]
theorem nextS_sk {m : Sc} (h : m.ov = false) (h2 : m.w = false) (h3 : m.hs = true ∧ m.so = false) (w : Value) : nextS m w = nextC m.ms := by unfold nextS; rw [if_neg (by rw [h]; decide), if_neg (by rw [h2]; decide), if_pos h3]
theorem nextS_hd {m : Sc} (h : handS m) (w : Value) : nextS m w = stepC 1 m.x ⟨2, 0, 0, zR, zR, 0, 0⟩ zRes := by unfold nextS; rw [if_neg (by rw [h.1]; decide), if_neg (by rw [h.2.1]; decide), if_neg h.2.2]
theorem copy_loop {s : St} {riv : Value} {rrows : List (List Value)} {l : List It} {z : List Value} {e : Int} (f : Fresh s) (hR : IsR s 2 riv rrows) (hI : ItR s rrows l) (hl : l.length ≤ 64) (hbig : ∀ it ∈ l, it.val.length ≤ 140737488355328) :
    ∃ w s' rows, iter (scan_Scan_Next.l7 std) BIG [riv, .int .i64 (l.length : Int), .int .i64 ((0 : Nat) : Int), .agg ⟨z⟩, .agg ⟨resI e nilV⟩] s = some ((0, [.agg ⟨z⟩, .agg ⟨resI e w⟩], s') : Cut) ∧ More s s' ∧ Fresh s' ∧ IsR s' 2 w rows ∧ ItR s' rows l := by
  refine iter_rel (fun d xs s' => ∃ w rows i, Ful s.n s' 2 w rows ∧ ItR s' rows (l.take i) ∧ More s s' ∧ Fresh s' ∧ i + d = l.length ∧ xs = [riv, .int .i64 (l.length : Int), .int .i64 (i : Int), .agg ⟨z⟩, .agg ⟨resI e w⟩])
    (fun y : Option Cut => ∃ w s' rows, y = some ((0, [.agg ⟨z⟩, .agg ⟨resI e w⟩], s') : Cut) ∧ More s s' ∧ Fresh s' ∧ IsR s' 2 w rows ∧ ItR s' rows l) ?_ BIG l.length _ s (by unfold BIG; omega) ⟨_, _, 0, .nil, .nil, .refl _, f, by omega, rfl⟩
  rintro d xs s2 rec ⟨w, rows, i, hw, hi, hm, hf, hd, rfl⟩ ih
  cases d with
  | zero =>
    have e1 : ¬ ((i : Int) < l.length) := by omega
    rw [List.take_of_length_le (by omega)] at hi
    exact ⟨w, s2, rows, by simp only [scan_Scan_Next.l7, sy, reduceIte, Nat.reduceAdd, Nat.reduceLeDiff, Nat.reduceLT, Nat.reduceEqDiff, Int.reduceEq, Int.reduceLT, Int.reduceLE, Int.reduceNe, ly, e1], hm, hf, hw.isR, hi⟩
  | succ d =>
    have e1 : (i : Int) < l.length := by omega
    obtain ⟨it, hit⟩ := get_some (l := l) (j := i) (by omega)
    have e5 : IntKind.i64.wrap ((i : Int) + 1) = ((i + 1 : Nat) : Int) := by rw [wrap64 (by omega) (by omega)]; omega
    have hR2 := hR.more hm f
    obtain ⟨v, hv, hB⟩ := (hI.stp (StpK.more (ks := []) hm f) (by simp)).at hit
    obtain ⟨b1, all1, ro1, a1, a2, a3⟩ := hR2.at hv
    have bxv := hB.bx
    obtain ⟨cw, s3, c1, c2, c3⟩ := sclone_r hf hB (hbig it (List.mem_of_getElem? hit))
    have f3 := c2.fresh hf
    have k3 : StpK [] s2 s3 := .more c2 hf
    have bxc := c3.bx
    have hrl : rows.length = i := by have := hi.1; rw [List.length_take] at this; omega
    obtain ⟨w2, s4, p1, p2, p3, p4, p5⟩ := push f3 (hw.stp k3 (by simp)) (hm.trans c2) (by_ := 32) [.int .u64 it.key, cw] (by omega) (by omega)
    have bxw := p3.isR.bx
    have fin : scan_Scan_Next.l7 std rec [riv, .int .i64 (l.length : Int), .int .i64 (i : Int), .agg ⟨z⟩, .agg ⟨resI e w⟩] s2 = rec [riv, .int .i64 (l.length : Int), .int .i64 ((i + 1 : Nat) : Int), .agg ⟨z⟩, .agg ⟨resI e w2⟩] s4 := by
      simp only [scan_Scan_Next.l7, sy, reduceIte, Nat.reduceAdd, Nat.reduceLeDiff, Nat.reduceLT, Nat.reduceEqDiff, Int.reduceEq, Int.reduceLT, Int.reduceLE, Int.reduceNe, ly, e1, a1, lda_row a2, a3, bxv, c1, bxc, als_eq, Nat.reduceMul, p1, bxw, e5]
    rw [fin]
    refine ih d _ _ (by omega) ⟨w2, _, i + 1, p3, ?_, p2, p4, by omega, rfl⟩
    rw [List.take_add_one, hit]
    exact ((hi.stp k3 (by simp)).stp p5 (by simp)).push (it := it) (c3.stp p5 (by simp))
theorem next_at {c : SC} {m : Sc} {s : St} {p N : Nat} {iv : Value} (f : Fresh s) (hat : AtS c m s p N iv) (hbig : ∀ it ∈ m.ri, it.val.length ≤ 140737488355328) :
    ∃ s' w, scan_Scan_Next.v (P p) s = some (.agg ⟨nextS m w⟩, s') ∧ More s s' ∧ Fresh s' ∧ (m.ov = true → ∃ rows, IsR s' 2 w rows ∧ ItR s' rows m.ri) := by
  obtain ⟨b, q, sp, riv, rows, rrows, h, h1, h2, hA, hF, hI, hR, hIr, hrn⟩ := id hat.ex
  have hi := hat.inv
  have is := is_s h
  cases ov : m.ov with
  | true =>
    obtain ⟨w, s', rows', e, g1, g2, g3, g4⟩ := copy_loop (z := stepC 0 zR zAsk zRes) (e := m.e) f hR hIr hi.ril hbig
    rw [show ((0 : Nat) : Int) = 0 from rfl] at e
    have hlen : lenL riv = some (.int .i64 m.ri.length) := by rw [hR.len, hIr.1]
    have bxr := hR.bx
    have bxw := g3.bx
    refine ⟨s', w, ?_, g1, g2, fun _ => ⟨rows', g3, g4⟩⟩
    rw [nextS_ov ov]
    simp only [scan_Scan_Next.v, scan_Scan_Next.t, scan_Scan_Next.t.p1, sy, reduceIte, Nat.reduceAdd, Nat.reduceLeDiff, Nat.reduceLT, Nat.reduceEqDiff, Int.reduceEq, Int.reduceLT, Int.reduceLE, Int.reduceNe, ly, is, ldc_row h, lda_row h, ov, bxr, hlen, e, bxw]
  | false =>
    refine ⟨s, nilV, ?_, .refl _, f, fun e => by cases e⟩
    cases w : m.w with
    | true =>
      rw [nextS_w ov w]
      simp only [scan_Scan_Next.v, scan_Scan_Next.t, scan_Scan_Next.t.p3, sy, reduceIte, Nat.reduceAdd, Nat.reduceLeDiff, Nat.reduceLT, Nat.reduceEqDiff, Int.reduceEq, Int.reduceLT, Int.reduceLE, Int.reduceNe, ly, is, ldc_row h, ov, w]
    | false =>
      by_cases hsk : m.hs = true ∧ m.so = false
      · rw [nextS_sk ov w hsk]
        obtain ⟨hs, so⟩ := hsk
        have hsp := h1 hs
        subst hsp
        have n1 := next_r hA
        have nc : (∃ k t a r, nextC m.ms = stepC k t a r) := by unfold nextC; split <;> exact ⟨_, _, _, _, rfl⟩
        obtain ⟨k, t, a, r, g⟩ := nc
        rw [g] at n1 ⊢
        simp only [scan_Scan_Next.v, scan_Scan_Next.t, scan_Scan_Next.t.p3, sy, reduceIte, Nat.reduceAdd, Nat.reduceLeDiff, Nat.reduceLT, Nat.reduceEqDiff, Int.reduceEq, Int.reduceLT, Int.reduceLE, Int.reduceNe, ly, is, ldc_row h, ov, w, so, n1]
      · rw [nextS_hd ⟨ov, w, hsk⟩]
        cases hs : m.hs with
        | true =>
          have so : m.so = true := by cases hb : m.so; exact absurd ⟨hs, hb⟩ hsk; rfl
          have hsp := h1 hs
          subst hsp
          simp only [scan_Scan_Next.v, scan_Scan_Next.t, scan_Scan_Next.t.p3, scan_Scan_Next.t.p2, sy, reduceIte, Nat.reduceAdd, Nat.reduceLeDiff, Nat.reduceLT, Nat.reduceEqDiff, Int.reduceEq, Int.reduceLT, Int.reduceLE, Int.reduceNe, ly, is, ldc_row h, lda_row h, ov, w, so]
        | false =>
          have hsp := h2 hs
          subst hsp
          simp only [scan_Scan_Next.v, scan_Scan_Next.t, scan_Scan_Next.t.p3, scan_Scan_Next.t.p2, sy, reduceIte, Nat.reduceAdd, Nat.reduceLeDiff, Nat.reduceLT, Nat.reduceEqDiff, Int.reduceEq, Int.reduceLT, Int.reduceLE, Int.reduceNe, ly, is, ldc_row h, lda_row h, ov, w]

/-- Something holds of all its items. -/
def AllI (Q : It → Prop) (m : Sc) : Prop := (∀ it ∈ m.its, Q it) ∧ (∀ it ∈ m.ri, Q it)
theorem allI_ends {Q : It → Prop} {m : Sc} (h : AllI Q m) (e : Int) : AllI Q (endsS m e []) := ⟨h.1, fun it hi => by simp [endsS] at hi⟩
theorem allI_takes {Q : It → Prop} {c : SC} {m : Sc} (h : AllI Q m) (x : Rf) (so : Bool) : AllI Q (takesS c m x so) := by
  unfold takesS endsS
  split
  · exact ⟨h.1, h.1⟩
  · exact h
theorem allI_found {Q : It → Prop} {c : SC} {m : Sc} (h : AllI Q m) : AllI Q (foundS c m) := by
  unfold foundS
  split
  · exact h
  · split
    · exact allI_ends h _
    · exact allI_takes h _ _
theorem allI_again {Q : It → Prop} {c : SC} {m : Sc} (h : AllI Q m) : AllI Q (againS c m) := by
  unfold againS
  split
  · exact allI_ends h _
  · exact h
theorem allI_tell {Q : It → Prop} {c : SC} {m : Sc} {a : Ans} {al : List (List Value)} {x : Option Rf} (h : AllI Q m) (hq : handS m → a.k = 1 → a.f = false → Q ⟨m.x.n, al⟩) : AllI Q (tellS c m a al x) := by
  unfold tellS
  split
  · exact h
  · rename_i h1
    split
    · exact allI_found (m := { m with ms := _ }) h
    · rename_i h2
      have hh : handS m := ⟨by cases hb : m.ov; rfl; exact absurd (.inl hb) h1, by cases hb : m.w; rfl; exact absurd (.inr hb) h1, h2⟩
      unfold gotS
      split
      · rename_i k1
        have h1' : AllI Q (has1 m a al) := by
          unfold has1
          split
          · rename_i hf
            refine ⟨fun it hi => ?_, h.2⟩
            rcases List.mem_append.1 hi with hi | hi
            · exact h.1 it hi
            · rw [List.mem_singleton] at hi; subst hi; exact hq hh k1 hf
          · exact h
        unfold hasS
        split
        · exact allI_ends h _
        · split
          · exact allI_takes h1' _ _
          · exact allI_again h1'
      · split
        · exact allI_found (m := { m with ms := _, so := _ }) h
        · exact h
theorem allI_wake {Q : It → Prop} {c : SC} {m : Sc} (h : AllI Q m) : AllI Q (wakeS c m) := by
  unfold wakeS
  split
  · exact allI_again (m := { m with w := false }) h
  · exact h

/-! ### New -/

def mS (c : SC) : Sc := ⟨2, c.low, true, 2, c.low, zR, false, false, [], 0, false, 0, [], m0 (c.sk 2 c.low)⟩
def newS (c : SC) : Sc := if c.high < c.low then endsS (mS c) 0 [] else mS c
theorem new_at {s : St} (f : Fresh s) (c : SC) (hb : 0 ≤ c.st.bt) :
    (¬ okC (c.sk 2 0) ∧ ∃ s', scan_New.v (.agg ⟨c.cs⟩) s = some (T2 nilP 180, s') ∧ More s s') ∨
    (okC (c.sk 2 0) ∧ ∃ s', scan_New.v (.agg ⟨c.cs⟩) s = some (T2 (P s.n) 0, s') ∧ AtS c (newS c) s' s.n 0 nilV ∧ More s s') := by
  have hok : okC (c.sk 2 0) ↔ okC (c.sk 2 c.low) := by
    constructor
    · intro h; exact okC_next h _ _ (.inl rfl)
    · rintro ⟨h1, h2, h3, h4, h5, _, h7⟩; exact ⟨h1, h2, h3, h4, h5, .inl rfl, h7⟩
  obtain ⟨mI, hmI⟩ : ∃ mI : Sc, mI = ⟨2, c.low, false, 2, c.low, zR, false, false, [], 0, false, 0, [], m0 (c.sk 2 c.low)⟩ := ⟨_, rfl⟩
  have e0 : alv s (.agg ⟨srow c mI nilP nilV nilV⟩) = some (P s.n, s.new (.row 37 [srow c mI nilP nilV nilV] false)) := rfl
  have m1 : More s (s.new (.row 37 [srow c mI nilP nilV nilV] false)) := .new
  have r1 : SRow (s.new (.row 37 [srow c mI nilP nilV nilV] false)) s.n (srow c mI nilP nilV nilV) := get_new_same
  have n1 : (s.new (.row 37 [srow c mI nilP nilV nilV] false)).n = s.n + 1 := rfl
  have f1 := m1.fresh f
  generalize s.new (.row 37 [srow c mI nilP nilV nilV] false) = s1 at *
  have sk := seeks_s f1 r1 hb
  rw [hmI] at e0 r1 sk
  simp only [srow] at e0
  rcases sk with ⟨hC, e2⟩ | ⟨hC, e2⟩
  · refine .inl ⟨fun g => hC (hok.1 g), ?_⟩
    obtain ⟨s3, hs3⟩ : ∃ s3, s3 = SPut s1 s.n (srow c ⟨2, c.low, false, 2, c.low, zR, false, false, [], 0, false, 0, [], m0 (c.sk 2 c.low)⟩ nilP nilV nilV) := ⟨_, rfl⟩
    have e3 : stv s1 1 (.pointer (some ⟨s.n, 0, some 10⟩)) nilP = some s3 := by rw [hs3]; simp only [stv_row r1, sy, reduceIte, Nat.reduceAdd, Nat.reduceLeDiff, Nat.reduceLT, Nat.reduceEqDiff, Int.reduceEq, Int.reduceLT, Int.reduceLE, Int.reduceNe, ly]
    exact ⟨s3, by simp only [scan_New.v, scan_New.t, sy, reduceIte, Nat.reduceAdd, Nat.reduceLeDiff, Nat.reduceLT, Nat.reduceEqDiff, Int.reduceEq, Int.reduceLT, Int.reduceLE, Int.reduceNe, ly, e0, e2, e3], by rw [hs3]; exact m1.put (Nat.le_refl _)⟩
  · refine .inr ⟨hok.2 hC, ?_⟩
    have hC : okC (c.sk 2 c.low) := hC
    have hA := at_new f1 (c.sk 2 c.low)
    have mo : More s1 (N2 s1 (c.sk 2 c.low)) := More.new.trans .new
    have r2 := mo.get f1 r1
    have f2 := mo.fresh f1
    have e2 : scan_Scan_seeks.v (P s.n) s1 = some (T2 (P (s1.n + 1)) 0, N2 s1 (c.sk 2 c.low)) := e2
    generalize N2 s1 (c.sk 2 c.low) = s2 at *
    obtain ⟨s3, hs3⟩ : ∃ s3, s3 = SPut s2 s.n (srow c (mS c) (P (s1.n + 1)) nilV nilV) := ⟨_, rfl⟩
    have e3 : stv s2 1 (.pointer (some ⟨s.n, 0, some 10⟩)) (P (s1.n + 1)) = some s3 := by rw [hs3]; simp only [stv_row r2, sy, reduceIte, Nat.reduceAdd, Nat.reduceLeDiff, Nat.reduceLT, Nat.reduceEqDiff, Int.reduceEq, Int.reduceLT, Int.reduceLE, Int.reduceNe, ly, mS]
    have r3 : SRow s3 s.n (srow c (mS c) (P (s1.n + 1)) nilV nilV) := by rw [hs3]; exact put_s r2
    have k3 : StpK [37] s2 s3 := by rw [hs3]; exact .put r2 (by simp [kd])
    have m3 : More s s3 := by rw [hs3]; exact (m1.trans mo).put (Nat.le_refl _)
    have hA3 := hA.stp k3 (by simp) (by simp)
    have inv : InvSc c (mS c) 0 := ⟨inv_m0 hC, fun e => by simp [mS, m0] at e, Nat.le_refl _, hC, hC, .inl rfl, Int.le_refl _, (fun e => by cases e), (fun e => absurd ⟨rfl, rfl⟩ e.2.2), by simp [mS], by simp [mS]⟩
    rcases Classical.propComplete (c.high < c.low) with kl | kl
    · have e4 := ends_s (l := []) (w := nilV) r3 0 rfl
      have kp : StpK [37] s3 (SPut s3 s.n (srow c (endsS (mS c) 0 []) (P (s1.n + 1)) nilV nilV)) := .put r3 (by simp [kd])
      rw [show newS c = endsS (mS c) 0 [] by unfold newS; rw [if_pos (of_eq_true kl)]]
      refine ⟨_, by simp only [scan_New.v, scan_New.t, sy, reduceIte, Nat.reduceAdd, Nat.reduceLeDiff, Nat.reduceLT, Nat.reduceEqDiff, Int.reduceEq, Int.reduceLT, Int.reduceLE, Int.reduceNe, ly, e0, e2, e3, kl, e4], ⟨⟨_, _, _, nilV, [], [], put_s r3, fun _ => rfl, (fun e => by cases e), hA3.stp kp (by simp) (by simp), .nil, .nil, .nil, .nil, fun _ => rfl⟩, ⟨inv.ms, inv.g, inv.tab, inv.okS, inv.okF, inv.srk, inv.tr, inv.so, (fun e => by simp [endsS, handS] at e), inv.its, inv.ril⟩⟩, m3.put (Nat.le_refl _)⟩
    · rw [show newS c = mS c by unfold newS; rw [if_neg (of_eq_false kl)]]
      exact ⟨s3, by simp only [scan_New.v, scan_New.t, sy, reduceIte, Nat.reduceAdd, Nat.reduceLeDiff, Nat.reduceLT, Nat.reduceEqDiff, Int.reduceEq, Int.reduceLT, Int.reduceLE, Int.reduceNe, ly, e0, e2, e3, kl], ⟨⟨_, _, _, nilV, [], [], r3, fun _ => rfl, (fun e => by cases e), hA3, .nil, .nil, .nil, .nil, fun _ => rfl⟩, inv⟩, m3⟩
end Go.Proofs.Ytmobdijoaebilaa
