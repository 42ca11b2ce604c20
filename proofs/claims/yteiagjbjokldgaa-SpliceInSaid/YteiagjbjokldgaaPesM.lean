/-
  A splice's walk among quiet peers.
-/
import Derived.Test.YteiagjbjokldgaaPesL
set_option linter.unusedSimpArgs false
set_option linter.unusedVariables false
set_option maxRecDepth 100000
set_option maxHeartbeats 4000000
namespace Go.Proofs.Yteiagjbjokldgaa
open Go.Sim Go.Sim.Bt
attribute [local congr] bdc cndc itec gdc gdSc gdUc

/-- Under way. -/
structure Go (c : Cf) (R A : List Rf) (rv pv : Value) (Xb U : Nat) (m : Mm) (g : Nat → Option Rc) (s : St) : Prop where
  L : ∃ ps, Lst c.wl c.wb R A rv pv Xb ps g s
  a : At c m s U
  i : InvM m
abbrev args29 (hV lv belv same : Value) (Xb U n : Nat) (c : Cf) : List Value := [hV, lv, PP Xb, belv, same, P U, .int .i64 (n : Int), .agg ⟨c.me.cs⟩, .agg ⟨[.int .i64 c.wl, .int .u64 c.wb]⟩]
theorem Go.cg {c : Cf} {R A : List Rf} {rv pv : Value} {Xb U : Nat} {m : Mm} {g g' : Nat → Option Rc} {s : St} (G : Go c R A rv pv Xb U m g s) (h : ∀ j, j < A.length → g' j = g j) : Go c R A rv pv Xb U m g' s := by
  obtain ⟨ps, L⟩ := G.L
  exact ⟨⟨ps, L.cg h⟩, G.a, G.i⟩
theorem ask_g {c : Cf} {R A : List Rf} {rv pv hV lv belv same : Value} {Xb U n i : Nat} {m : Mm} {g : Nat → Option Rc} {s : St} {t : Rf} {ak : AskP} {a : Ans} {x : Option Rc} (hid : A.Pairwise fun a b => a.id ≠ b.id) (hl : A.length ≤ 100000) (G : Go c R A rv pv Xb U m g s) (hn : n < 200) (hx : nextC c m = stepC 1 t ak zRes) (ht : A[i]? = some t)
    (D : ∀ ps, Lst c.wl c.wb R A rv pv Xb ps g s → Did c.wl c.wb A pv ps g s i 1 ak a x) (rec : List Value → St → Option Cut) :
    ∃ s', leapfroglaw13x_SpliceIn.l29 std rec (args29 hV lv belv same Xb U n c) s = rec (args29 hV lv belv same Xb U (n + 1) c) s' ∧ Go c R A rv pv Xb U (tellC c m a) (upd g i x) s' ∧ StpK [11, 44] s s' := by
  obtain ⟨ps, L⟩ := G.L
  obtain ⟨s1, ps1, e1, L1, k1⟩ := answer_l (k := 1) (re := zRes) L hid hl ht (D ps L)
  have n1 := next_r G.a G.i
  rw [hx] at n1
  have A1 := G.a.k k1 (by simp) (by simp) (by simp) (by simp)
  obtain ⟨s2, t1, t2, t3⟩ := tell_r L1.f A1 G.i a
  have A1' := A1
  obtain ⟨lp, fv, hrow, _⟩ := A1'
  have k2 := stp_k t3 hrow L1.f
  have e2 : (n : Int) < 200 := by omega
  have e5 : IntKind.i64.wrap ((n : Int) + 1) = ((n + 1 : Nat) : Int) := by rw [wrap64 (by omega) (by omega)]; omega
  refine ⟨s2, ?_, ⟨⟨ps1, L1.stp k2 (by simp) (by simp) (by simp) (by simp) (by simp)⟩, t2, inv_tell G.i a⟩, (k1.mono (by simp)).trans (k2.mono (by simp))⟩
  simp only [args29, leapfroglaw13x_SpliceIn.l29, leapfroglaw13x_SpliceIn.l29.p2, sy, reduceIte, Nat.reduceAdd, Nat.reduceLeDiff, Nat.reduceLT, Nat.reduceEqDiff, Int.reduceEq, Int.reduceLT, Int.reduceLE, Int.reduceNe, ly, e2, n1, e1, t1, e5]
/-- All quiet: nobody but those of the row is in. -/
def quiet (wl wb : Int) (R : List Rf) : Nat → Option Rc := fun j => if j < R.length then some (recV wl wb R j) else none
structure WkH (h : Int) (c : Cf) (R : List Rf) : Prop where
  ok : OkRw h c.wl c.wb R
  me2 : c.me.rk = 2
  mev : okV c.me.ln c.me.bt
  id : ∀ r ∈ R, r.id ≠ c.me.id
  oa : c.oa = 1
  oo : c.oo = 1
section
variable {h : Int} {c : Cf} {R : List Rf} {rv pv hV lv belv same : Value} {Xb U n i : Nat} {g : Nat → Option Rc} {s : St} {p r q : Rf} {last : Option Rf} {dd : Bool} {th : Th} {res : Res}
theorem WkH.ids (H : WkH h c R) : (R ++ [c.me]).Pairwise fun a b => a.id ≠ b.id := by
  rw [List.pairwise_append]
  exact ⟨H.ok.ids, List.pairwise_singleton _ _, fun a ha b hb => by rw [List.mem_singleton] at hb; subst hb; exact H.id a ha⟩
theorem WkH.len (H : WkH h c R) : (R ++ [c.me]).length ≤ 100000 := by
  have := H.ok.len
  rw [List.length_append, List.length_singleton]; omega
theorem WkH.at (H : WkH h c R) {x : Rf} (hx : R[i]? = some x) : (R ++ [c.me])[i]? = some x := by
  rw [List.getElem?_append_left (List.getElem?_eq_some_iff.1 hx).1]; exact hx
theorem WkH.mine (H : WkH h c R) : (R ++ [c.me])[R.length]? = some c.me := by
  rw [List.getElem?_append_right (Nat.le_refl _), Nat.sub_self]; rfl
theorem WkH.o (H : WkH h c R) : okO c.oa c.oo := by rw [H.oa, H.oo]; unfold okO; omega
theorem recV_r {wl wb : Int} (hq : R[i + 1]? = some q) : (recV wl wb R i).r = q := by unfold recV; exact getD_some hq
theorem hop1 (H : WkH h c R) (G : Go c R (R ++ [c.me]) rv pv Xb U ⟨1, p, last, r, false, dd, th, res⟩ (quiet c.wl c.wb R) s) (hn : n < 200) (hp : R[i]? = some p) (hq : R[i + 1]? = some q) (rec : List Value → St → Option Cut) :
    ∃ s', leapfroglaw13x_SpliceIn.l29 std rec (args29 hV lv belv same Xb U n c) s = rec (args29 hV lv belv same Xb U (n + 1) c) s' ∧ StpK [11, 44] s s' ∧
      Go c R (R ++ [c.me]) rv pv Xb U (tellC c ⟨1, p, last, r, false, dd, th, res⟩ (ansR (recV c.wl c.wb R i))) (upd (quiet c.wl c.wb R) i (some (lockd (recV c.wl c.wb R i) 1 1))) s' := by
  have hil : i < R.length := (List.getElem?_eq_some_iff.1 hp).1
  obtain ⟨s1, e1, G1, k1⟩ := ask_g (n := n) (x := some (lockd (recV c.wl c.wb R i) 1 1)) (a := ansR (recV c.wl c.wb R i)) (ak := ⟨3, c.wl, c.wb, zR, zR, c.oa, c.oo⟩) H.ids H.len G hn n1 (H.at hp) (fun ps L => by
    have := wlock (t := 1) (oa := c.oa) (oo := c.oo) (r := recV c.wl c.wb R i) H.ok.hw L.f L.W (H.at hp) (by unfold quiet; rw [if_pos hil]) H.o rfl
    rw [H.oa, H.oo] at this ⊢
    exact this) rec
  exact ⟨s1, e1, k1, G1⟩
theorem free1 (H : WkH h c R) {m : Mm} {rc : Rc} (hm : nextC c m = stepC 1 p ⟨4, c.wl, c.wb, zR, zR, c.oa, c.oo⟩ zRes) (G : Go c R (R ++ [c.me]) rv pv Xb U m g s) (hn : n < 200) (hp : (R ++ [c.me])[i]? = some p) (hg : g i = some rc) (h1 : rc.held = true) (h2 : rc.ha = 1) (h3 : rc.ho = 1) (rec : List Value → St → Option Cut) :
    ∃ s', leapfroglaw13x_SpliceIn.l29 std rec (args29 hV lv belv same Xb U n c) s = rec (args29 hV lv belv same Xb U (n + 1) c) s' ∧ StpK [11, 44] s s' ∧ Go c R (R ++ [c.me]) rv pv Xb U (tellC c m okA) (upd g i (some (freed rc))) s' := by
  obtain ⟨s1, e1, G1, k1⟩ := ask_g (n := n) (x := some (freed rc)) (a := okA) (ak := ⟨4, c.wl, c.wb, zR, zR, c.oa, c.oo⟩) H.ids H.len G hn hm hp (fun ps L => by
    have := wfree (t := 1) H.ok.hw L.f L.W hp hg (by rw [h2, h3]; unfold okO; omega) h1
    rw [h2, h3] at this
    rw [H.oa, H.oo]
    exact this) rec
  exact ⟨s1, e1, k1, G1⟩
theorem hop (H : WkH h c R) (G : Go c R (R ++ [c.me]) rv pv Xb U ⟨1, p, last, r, false, dd, th, res⟩ (quiet c.wl c.wb R) s) (hn : n + 1 < 200) (hp : R[i]? = some p) (hq : R[i + 1]? = some q) (hb : ltF q c.me) (f : Nat) :
    ∃ s', iter (leapfroglaw13x_SpliceIn.l29 std) (f + 2) (args29 hV lv belv same Xb U n c) s = iter (leapfroglaw13x_SpliceIn.l29 std) f (args29 hV lv belv same Xb U (n + 2) c) s' ∧ StpK [11, 44] s s' ∧
      Go c R (R ++ [c.me]) rv pv Xb U ⟨1, q, some p, q, false, dd, .next, res⟩ (quiet c.wl c.wb R) s' := by
  have hil : i < R.length := (List.getElem?_eq_some_iff.1 hp).1
  obtain ⟨s1, e1, k1', G1⟩ := hop1 (hV := hV) (lv := lv) (belv := belv) (same := same) (n := n) H G (by omega) hp hq (iter (leapfroglaw13x_SpliceIn.l29 std) (f + 1))
  rw [k1n (by show ltF p _; rw [recV_r hq]; exact up_at H.ok (by omega) hp hq) (by show ltF _ c.me; rw [recV_r hq]; exact hb), recV_r hq] at G1
  obtain ⟨s2, e2, k2', G2⟩ := free1 (hV := hV) (lv := lv) (belv := belv) (same := same) H n8 G1 (n := n + 1) hn (H.at hp) (by unfold upd; rw [if_pos rfl]) rfl rfl rfl (iter (leapfroglaw13x_SpliceIn.l29 std) f)
  rw [k8n] at G2
  refine ⟨s2, ?_, k1'.trans k2', G2.cg fun j _ => ?_⟩
  · rw [iter_succ, e1, iter_succ, e2]
  · unfold upd
    by_cases e : j = i
    · rw [if_pos e, e]
      unfold quiet
      rw [if_pos hil]
      rfl
    · rw [if_neg e, if_neg e]
theorem walk (H : WkH h c R) {K : Nat} (hK : ∀ (j : Nat) x, j < K → R[j]? = some x → ltF x c.me) (hKl : K < R.length) (f : Nat) : ∀ (d i n : Nat) (s : St) (p : Rf) (last : Option Rf) (r : Rf) (dd : Bool) (th : Th) (res : Res), i + d + 1 = K → n + 2 * d < 190 → R[i]? = some p →
    Go c R (R ++ [c.me]) rv pv Xb U ⟨1, p, last, r, false, dd, th, res⟩ (quiet c.wl c.wb R) s →
    ∃ s' p' last' r' dd' th' res', iter (leapfroglaw13x_SpliceIn.l29 std) (f + 2 * d) (args29 hV lv belv same Xb U n c) s = iter (leapfroglaw13x_SpliceIn.l29 std) f (args29 hV lv belv same Xb U (n + 2 * d) c) s' ∧ StpK [11, 44] s s' ∧ R[K - 1]? = some p' ∧
      Go c R (R ++ [c.me]) rv pv Xb U ⟨1, p', last', r', false, dd', th', res'⟩ (quiet c.wl c.wb R) s'
  | 0, i, n, s, p, last, r, dd, th, res, h1, h2, h3, G => by
    refine ⟨s, p, last, r, dd, th, res, rfl, .refl _ _, ?_, G⟩
    rw [show K - 1 = i by omega]; exact h3
  | d + 1, i, n, s, p, last, r, dd, th, res, h1, h2, h3, G => by
    obtain ⟨q, hq⟩ := get_some (l := R) (j := i + 1) (by omega)
    obtain ⟨s1, e1, k1, G1⟩ := hop (hV := hV) (lv := lv) (belv := belv) (same := same) (n := n) H G (by omega) h3 hq (hK (i + 1) q (by omega) hq) (f + 2 * d)
    obtain ⟨s2, p', last', r', dd', th', res', e2, k2, h4, G2⟩ := walk H hK hKl f d (i + 1) (n + 2) s1 q _ _ _ _ _ (by omega) (by omega) hq G1
    refine ⟨s2, p', last', r', dd', th', res', ?_, k1.trans k2, h4, G2⟩
    rw [show f + 2 * (d + 1) = f + 2 * d + 2 by omega, e1, e2, show n + 2 + 2 * d = n + 2 * (d + 1) by omega]
/-- Its key is there. -/
theorem ends_same (H : WkH h c R) (G : Go c R (R ++ [c.me]) rv pv Xb U ⟨1, p, last, r, false, dd, th, res⟩ (quiet c.wl c.wb R) s) (hn : n + 2 < 200) (hp : R[i]? = some p) (hq : R[i + 1]? = some q) (hk : keyF q c.me) (h0 : ¬ 0 < c.wl) (f : Nat) :
    ∃ s' m', iter (leapfroglaw13x_SpliceIn.l29 std) (f + 3) (args29 hV lv belv same Xb U n c) s = iter (leapfroglaw13x_SpliceIn.l29 std) f (args29 hV lv belv same Xb U (n + 3) c) s' ∧ StpK [11, 44] s s' ∧
      Go c R (R ++ [c.me]) rv pv Xb U m' (quiet c.wl c.wb R) s' ∧ nextC c m' = stepC 3 zR zAsk ⟨100, 0, p, q, false⟩ := by
  have hil : i + 1 < R.length := (List.getElem?_eq_some_iff.1 hq).1
  obtain ⟨s1, e1, k1', G1⟩ := hop1 (hV := hV) (lv := lv) (belv := belv) (same := same) (n := n) H G (by omega) hp hq (iter (leapfroglaw13x_SpliceIn.l29 std) (f + 2))
  have hup := up_at H.ok (show i < i + 1 by omega) hp hq
  rw [k1s (by show ltF p _; rw [recV_r hq]; exact hup) (by show ¬ ltF _ c.me; rw [recV_r hq]; unfold ltF lessK; obtain ⟨a, b⟩ := hk; omega) (by show sameK _ c.me; rw [recV_r hq]; exact hk) h0, recV_r hq] at G1
  obtain ⟨s2, e2, G2, k2'⟩ := ask_g (hV := hV) (lv := lv) (belv := belv) (same := same) (n := n + 1) (i := i + 1) (x := some (recV c.wl c.wb R (i + 1))) (a := ansR (recV c.wl c.wb R (i + 1))) (ak := ⟨1, c.wl, c.wb, zR, zR, 0, 0⟩) H.ids H.len G1 (by omega) n2 (H.at hq) (fun ps L =>
    wread (t := 1) (r := recV c.wl c.wb R (i + 1)) H.ok.hw L.f L.W (H.at hq) (by unfold upd quiet; rw [if_neg (by omega), if_pos hil])) (iter (leapfroglaw13x_SpliceIn.l29 std) (f + 1))
  rw [k2] at G2
  obtain ⟨s3, e3, k3', G3⟩ := free1 (hV := hV) (lv := lv) (belv := belv) (same := same) (n := n + 2) H n8 G2 (by omega) (H.at hp) (rc := lockd (recV c.wl c.wb R i) 1 1) (by unfold upd; rw [if_neg (by omega), if_pos rfl]) rfl rfl rfl (iter (leapfroglaw13x_SpliceIn.l29 std) f)
  rw [k8x] at G3
  refine ⟨s3, _, ?_, k1'.trans (k2'.trans k3'), G3.cg fun j _ => ?_, n10⟩
  · rw [show f + 3 = f + 2 + 1 by omega, iter_succ, e1, show f + 2 = f + 1 + 1 by omega, iter_succ, e2, iter_succ, e3]
  · unfold upd
    by_cases e : j = i
    · rw [if_pos e, e]
      unfold quiet
      rw [if_pos (by omega)]
      rfl
    · rw [if_neg e]
      by_cases e' : j = i + 1
      · rw [if_pos e', e']
        unfold quiet
        rw [if_pos hil]
      · rw [if_neg e', if_neg e]
/-- Who is in, at its place. -/
def gfin (c : Cf) (R : List Rf) (i : Nat) (p q : Rf) : Nat → Option Rc := fun j =>
  if j = i then some { recV c.wl c.wb R i with r := c.me } else if j = R.length then some ⟨c.wl, c.wb, p, q, false, 0, 0⟩ else if j = i + 1 then some { recV c.wl c.wb R (i + 1) with l := c.me } else quiet c.wl c.wb R j
theorem ends_in (H : WkH h c R) (G : Go c R (R ++ [c.me]) rv pv Xb U ⟨1, p, last, r, false, dd, th, res⟩ (quiet c.wl c.wb R) s) (hn : n + 5 < 200) (hp : R[i]? = some p) (hq : R[i + 1]? = some q) (hpm : ltF p c.me) (hmq : ltF c.me q) (f : Nat) :
    ∃ s' m', iter (leapfroglaw13x_SpliceIn.l29 std) (f + 6) (args29 hV lv belv same Xb U n c) s = iter (leapfroglaw13x_SpliceIn.l29 std) f (args29 hV lv belv same Xb U (n + 6) c) s' ∧ StpK [11, 44] s s' ∧
      Go c R (R ++ [c.me]) rv pv Xb U m' (gfin c R i p q) s' ∧ nextC c m' = stepC 3 zR zAsk ⟨0, 0, p, q, false⟩ := by
  have hil : i + 1 < R.length := (List.getElem?_eq_some_iff.1 hq).1
  have op := ok_ref H.ok hp
  have oq := ok_ref H.ok hq
  have om : okRef c.me := ⟨.inl H.me2, H.mev⟩
  have hw := H.ok.hw
  obtain ⟨s1, e1, k1', G1⟩ := hop1 (hV := hV) (lv := lv) (belv := belv) (same := same) (n := n) H G (by omega) hp hq (iter (leapfroglaw13x_SpliceIn.l29 std) (f + 5))
  have hup := up_at H.ok (show i < i + 1 by omega) hp hq
  rw [k1e (by show ltF p _; rw [recV_r hq]; exact hup) (by show ¬ ltF _ c.me; rw [recV_r hq]; exact ltF_asym hmq) (by show ¬ keyF _ c.me; rw [recV_r hq]; intro g; unfold ltF lessK at hmq; obtain ⟨a, b⟩ := g; omega), recV_r hq] at G1
  obtain ⟨s2, e2, G2, k2'⟩ := ask_g (hV := hV) (lv := lv) (belv := belv) (same := same) (n := n + 1) (i := R.length) (x := some ⟨c.wl, c.wb, p, q, true, c.oa, c.oo⟩) (a := okA) (ak := ⟨7, c.wl, c.wb, p, q, c.oa, c.oo⟩) H.ids H.len G1 (by omega) n3 H.mine (fun ps L =>
    wenter (t := 1) hw L.f L.W H.mine (by unfold upd quiet; rw [if_neg (by omega), if_neg (by omega)]) H.o op oq hpm hmq) (iter (leapfroglaw13x_SpliceIn.l29 std) (f + 4))
  rw [k3] at G2
  obtain ⟨s3, e3, G3, k3'⟩ := ask_g (hV := hV) (lv := lv) (belv := belv) (same := same) (n := n + 2) (i := i) (x := some { lockd (recV c.wl c.wb R i) 1 1 with r := c.me }) (a := okA) (ak := ⟨5, c.wl, c.wb, c.me, zR, c.oa, c.oo⟩) H.ids H.len G2 (by omega) n4 (H.at hp) (fun ps L => by
    have := wright (t := 1) (r := lockd (recV c.wl c.wb R i) 1 1) hw L.f L.W (H.at hp) (by unfold upd; rw [if_neg (by omega), if_pos rfl]) rfl om hpm
    have e : (⟨5, c.wl, c.wb, c.me, zR, c.oa, c.oo⟩ : AskP) = ⟨5, c.wl, c.wb, c.me, zR, 1, 1⟩ := by rw [H.oa, H.oo]
    rw [e]
    exact this) (iter (leapfroglaw13x_SpliceIn.l29 std) (f + 3))
  rw [k4] at G3
  obtain ⟨s4, e4, G4, k4'⟩ := ask_g (hV := hV) (lv := lv) (belv := belv) (same := same) (n := n + 3) (i := i + 1) (x := some { recV c.wl c.wb R (i + 1) with l := c.me }) (a := okA) (ak := ⟨6, c.wl, c.wb, c.me, zR, 0, 0⟩) H.ids H.len G3 (by omega) n5 (H.at hq) (fun ps L =>
    wleft (t := 1) (r := recV c.wl c.wb R (i + 1)) hw L.f L.W (H.at hq) (by unfold upd quiet; rw [if_neg (by omega), if_neg (by omega), if_neg (by omega), if_pos hil]) om hmq) (iter (leapfroglaw13x_SpliceIn.l29 std) (f + 2))
  rw [k5] at G4
  obtain ⟨s5, e5, k5', G5⟩ := free1 (hV := hV) (lv := lv) (belv := belv) (same := same) (n := n + 4) (i := R.length) (rc := ⟨c.wl, c.wb, p, q, true, c.oa, c.oo⟩) H n6 G4 (by omega) H.mine (by unfold upd; rw [if_neg (by omega), if_neg (by omega), if_pos rfl]) rfl H.oa H.oo (iter (leapfroglaw13x_SpliceIn.l29 std) (f + 1))
  rw [k6] at G5
  obtain ⟨s6, e6, k6', G6⟩ := free1 (hV := hV) (lv := lv) (belv := belv) (same := same) (n := n + 5) (rc := { lockd (recV c.wl c.wb R i) 1 1 with r := c.me }) H n8 G5 (by omega) (H.at hp) (by unfold upd; rw [if_neg (by omega), if_neg (by omega), if_pos rfl]) rfl rfl rfl (iter (leapfroglaw13x_SpliceIn.l29 std) f)
  rw [k8f] at G6
  refine ⟨s6, _, ?_, k1'.trans (k2'.trans (k3'.trans (k4'.trans (k5'.trans k6')))), G6.cg fun j _ => ?_, n10⟩
  · rw [show f + 6 = f + 5 + 1 by omega, iter_succ, e1, show f + 5 = f + 4 + 1 by omega, iter_succ, e2, show f + 4 = f + 3 + 1 by omega, iter_succ, e3, show f + 3 = f + 2 + 1 by omega, iter_succ, e4, show f + 2 = f + 1 + 1 by omega, iter_succ, e5, iter_succ, e6]
  · unfold upd gfin
    by_cases e : j = i
    · rw [if_pos e, if_pos e]; rfl
    · rw [if_neg e, if_neg e]
      by_cases e2 : j = R.length
      · rw [if_pos e2, if_pos e2]; rfl
      · rw [if_neg e2, if_neg e2]
        by_cases e3 : j = i + 1
        · rw [if_pos e3, if_pos e3]
        · rw [if_neg e3, if_neg e3, if_neg e, if_neg e2, if_neg e]
end
end Go.Proofs.Yteiagjbjokldgaa
