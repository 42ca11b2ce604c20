/-
  UnspliceOut, over abstract values.
-/
import Derived.Test.YtkkgegocliobpaaPerR
import Derived.Test.YtkkgegocliobpaaUnsE
set_option linter.unusedSimpArgs false
set_option linter.unusedVariables false
set_option maxRecDepth 100000
set_option maxHeartbeats 2000000
namespace Go.Proofs.Ytkkgegocliobpaa
open Go.Sim Go.Sim.Bt
attribute [local congr] bdc cndc itec gdc gdSc gdUc
namespace UnspliceOut

theorem but_k {U : Nat} {s s' : St} {X : List Value} (h : But U s s') (hU : Row s U X) : StpK [22] s s' :=
  ⟨by rw [h.2.1]; exact Nat.le_refl _, fun x k hx hk => by
    by_cases e : x = U
    · subst e
      rw [hU] at hx
      cases hx
      simp [kd] at hk
    · rw [h.1 x e]; exact hx, h.2.2⟩
/-- The machine and its world. -/
structure Go (c : Cf) (m : Mm) (R : List Rf) (rv pv : Value) (ps : List (Pr × Nat)) (g : Nat → Option Rc) (s : St) (U : Nat) : Prop where
  w : Wm R rv pv ps g s
  u : Row s U (urow c m)
  i : InvM m
  f : Fresh s
/-- One ask, and its answer. -/
theorem ask {c : Cf} {m : Mm} {R : List Rf} {rv pv kv : Value} {ps : List (Pr × Nat)} {g : Nat → Option Rc} {s s1 : St} {U n i : Nat} {p q : Pr} {b : Nat} {t : Rf} {ak : AskP} {w : Value} {a : Ans} {x : Option Rc} (hR : OkR R) (G : Go c m R rv pv ps g s U)
    (hq : ps[i]? = some (p, b)) (ht : R[i]? = some t) (hn : n ≤ 8) (hx : nextC c m = stepC 1 t ak zRes)
    (e : leapfrogref09x_Peer_Ask.v (PP b) (.int .i64 (n : Int)) (.agg ⟨ak.cs⟩) s = some (.tuple ⟨[w, .int .i64 0]⟩, s1)) (ht' : Told s1 w n a) (k : StB b s s1) (A : AtP q s1 b) (V : Sh q x) (L : LikeP p q) (rec : List Value → St → Option Cut) :
    ∃ s2, leapfroglaw14x_UnspliceOut.l11 std rec [rv, pv, kv, P U, .int .i64 (n : Int)] s = rec [rv, pv, kv, P U, .int .i64 ((n + 1 : Nat) : Int)] s2 ∧ Go c (tellC c m a) R rv pv (ps.set i (q, b)) (upd g i x) s2 U := by
  have kk := stb_k (G.w.w.p i _ hq) k
  have W1 := G.w.adv hq k A V L
  have U1 : Row s1 U (urow c m) := kk.row G.u (by simp)
  have n1 := next_r G.u G.i.1 G.i.2.1
  rw [hx] at n1
  have fd := find14_r hR G.w.r.isR ht
  have e1 : (n : Int) ≤ 8 := by omega
  have e2 : ¬ ((i : Int) < 0) := by omega
  have e5 : IntKind.i64.wrap ((n : Int) + 1) = ((n + 1 : Nat) : Int) := by rw [wrap64 (by omega) (by omega)]; omega
  obtain ⟨_, _, i1, i2, i3⟩ := G.w.p.isR.at2 (pb_get hq)
  obtain ⟨_, _, j1, j2, j3⟩ := (G.w.p.isR.stp kk (by simp)).at2 (pb_get hq)
  obtain ⟨l1, y, x1, x2⟩ := ht'.at
  obtain ⟨s2, t1, t2, t3⟩ := tell_r U1 G.i a
  refine ⟨s2, ?_, W1.stp (but_k t3 U1) (by simp) (by simp) (by simp) (by simp), t2, inv_tell G.i a, t3.2.2 (k.fr G.f)⟩
  simp only [leapfroglaw14x_UnspliceOut.l11, leapfroglaw14x_UnspliceOut.l11.p1, sy, reduceIte, Nat.reduceAdd, Nat.reduceLeDiff, Nat.reduceLT, Nat.reduceEqDiff, Int.reduceEq, Int.reduceLT, Int.reduceLE, Int.reduceNe, ly, n1, e1, fd, e2, i1, ldc_row i2, i3, e, j1, samePj, l1, x1, lda_row x2, t1, e5]
/-- The peer at a place. -/
theorem Go.at {c : Cf} {m : Mm} {R : List Rf} {rv pv : Value} {ps : List (Pr × Nat)} {g : Nat → Option Rc} {s : St} {U i : Nat} {t : Rf} {r : Rc} (G : Go c m R rv pv ps g s U) (ht : R[i]? = some t) (hg : g i = some r) :
    ∃ p b, ps[i]? = some (p, b) ∧ p.me = t ∧ Vw p r ∧ AtP p s b ∧ p.ma = false ∧ (p.en = true ↔ (i = 0 ∨ i + 1 = R.length)) := by
  have hl : i < R.length := (List.getElem?_eq_some_iff.1 ht).1
  obtain ⟨⟨p, b⟩, hq⟩ := get_some (l := ps) (j := i) (by rw [G.w.l]; exact hl)
  obtain ⟨a1, a2, a3⟩ := G.w.m i _ hq
  have v := G.w.v i _ hq
  rw [hg] at v
  rw [ht] at a1
  exact ⟨p, b, hq, (Option.some.inj a1).symm, v, G.w.w.p i _ hq, a3, a2⟩
theorem goRead {c : Cf} {m : Mm} {R : List Rf} {rv pv kv : Value} {ps : List (Pr × Nat)} {g : Nat → Option Rc} {s : St} {U n i : Nat} {t : Rf} {r : Rc} (hR : OkR R) (G : Go c m R rv pv ps g s U) (ht : R[i]? = some t) (hg : g i = some r) (hn : n ≤ 8) (hx : nextC c m = stepC 1 t ⟨1, 0, 0, zR, zR, 0, 0⟩ zRes) (rec : List Value → St → Option Cut) :
    ∃ s2 ps', leapfroglaw14x_UnspliceOut.l11 std rec [rv, pv, kv, P U, .int .i64 (n : Int)] s = rec [rv, pv, kv, P U, .int .i64 ((n + 1 : Nat) : Int)] s2 ∧ Go c (tellC c m (ansR r)) R rv pv ps' (upd g i (some r)) s2 U := by
  obtain ⟨p, b, hq, me, v, A, ma, en⟩ := G.at ht hg
  obtain ⟨w, s1, e, told, mo, f1⟩ := vread (t := n) G.f A v
  rw [ofC_f ma] at told
  obtain ⟨s2, e2, G2⟩ := ask (kv := kv) (x := some r) hR G hq ht hn hx e told (.more mo G.f) (A.more mo G.f) v ⟨rfl, rfl, rfl, rfl, rfl, rfl⟩ rec
  exact ⟨s2, _, e2, G2⟩
theorem goLock {c : Cf} {m : Mm} {R : List Rf} {rv pv kv : Value} {ps : List (Pr × Nat)} {g : Nat → Option Rc} {s : St} {U n i : Nat} {t : Rf} {r : Rc} (hR : OkR R) (G : Go c m R rv pv ps g s U) (ht : R[i]? = some t) (hg : g i = some r) (hn : n ≤ 8) (hr : r.held = false) (hx : nextC c m = stepC 1 t ⟨3, 0, 0, zR, zR, 1, 1⟩ zRes) (rec : List Value → St → Option Cut) :
    ∃ s2 ps', leapfroglaw14x_UnspliceOut.l11 std rec [rv, pv, kv, P U, .int .i64 (n : Int)] s = rec [rv, pv, kv, P U, .int .i64 ((n + 1 : Nat) : Int)] s2 ∧ Go c (tellC c m (ansR r)) R rv pv ps' (upd g i (some (lockd r 1 1))) s2 U := by
  obtain ⟨p, b, hq, me, v, A, ma, en⟩ := G.at ht hg
  obtain ⟨w, s1, q, e, told, A1, v1, L, k⟩ := vlock (t := n) (oa := 1) (oo := 1) G.f A v (by unfold okO; omega) hr
  rw [ofC_f ma] at told
  obtain ⟨s2, e2, G2⟩ := ask (kv := kv) (x := some _) hR G hq ht hn hx e told k A1 v1 L rec
  exact ⟨s2, _, e2, G2⟩
theorem goRight {c : Cf} {m : Mm} {R : List Rf} {rv pv kv : Value} {ps : List (Pr × Nat)} {g : Nat → Option Rc} {s : St} {U n i : Nat} {t y : Rf} {r : Rc} (hR : OkR R) (G : Go c m R rv pv ps g s U) (ht : R[i]? = some t) (hg : g i = some r) (hn : n ≤ 8) (hr : r.held = true) (h1 : r.ha = 1) (h2 : r.ho = 1) (oy : okRef y) (ly : lessK t.rk t.n y.rk y.n)
    (hx : nextC c m = stepC 1 t ⟨5, 0, 0, y, zR, 1, 1⟩ zRes) (rec : List Value → St → Option Cut) :
    ∃ s2 ps', leapfroglaw14x_UnspliceOut.l11 std rec [rv, pv, kv, P U, .int .i64 (n : Int)] s = rec [rv, pv, kv, P U, .int .i64 ((n + 1 : Nat) : Int)] s2 ∧ Go c (tellC c m okA) R rv pv ps' (upd g i (some { r with r := y })) s2 U := by
  obtain ⟨p, b, hq, me, v, A, ma, en⟩ := G.at ht hg
  obtain ⟨w, s1, q, e, told, A1, v1, L, k⟩ := vright (t := n) G.f A v hr oy (by rw [me]; exact ly)
  rw [h1, h2] at e
  obtain ⟨s2, e2, G2⟩ := ask (kv := kv) (x := some _) hR G hq ht hn hx e told k A1 v1 L rec
  exact ⟨s2, _, e2, G2⟩
theorem goLeft {c : Cf} {m : Mm} {R : List Rf} {rv pv kv : Value} {ps : List (Pr × Nat)} {g : Nat → Option Rc} {s : St} {U n i : Nat} {t y : Rf} {r : Rc} (hR : OkR R) (G : Go c m R rv pv ps g s U) (ht : R[i]? = some t) (hg : g i = some r) (hn : n ≤ 8) (h0 : r.held = false → r.ha = 0 ∧ r.ho = 0) (oy : okRef y) (ly : lessK y.rk y.n t.rk t.n)
    (hx : nextC c m = stepC 1 t ⟨6, 0, 0, y, zR, 0, 0⟩ zRes) (rec : List Value → St → Option Cut) :
    ∃ s2 ps', leapfroglaw14x_UnspliceOut.l11 std rec [rv, pv, kv, P U, .int .i64 (n : Int)] s = rec [rv, pv, kv, P U, .int .i64 ((n + 1 : Nat) : Int)] s2 ∧ Go c (tellC c m okA) R rv pv ps' (upd g i (some { r with l := y })) s2 U := by
  obtain ⟨p, b, hq, me, v, A, ma, en⟩ := G.at ht hg
  obtain ⟨w, s1, q, e, told, A1, v1, L, k⟩ := vleft (t := n) G.f A v h0 oy (by rw [me]; exact ly)
  obtain ⟨s2, e2, G2⟩ := ask (kv := kv) (x := some _) hR G hq ht hn hx e told k A1 v1 L rec
  exact ⟨s2, _, e2, G2⟩
theorem goFree {c : Cf} {m : Mm} {R : List Rf} {rv pv kv : Value} {ps : List (Pr × Nat)} {g : Nat → Option Rc} {s : St} {U n i : Nat} {t : Rf} {r : Rc} (hR : OkR R) (G : Go c m R rv pv ps g s U) (ht : R[i]? = some t) (hg : g i = some r) (hn : n ≤ 8) (hr : r.held = true) (h1 : r.ha = 1) (h2 : r.ho = 1)
    (hx : nextC c m = stepC 1 t ⟨4, 0, 0, zR, zR, 1, 1⟩ zRes) (rec : List Value → St → Option Cut) :
    ∃ s2 ps', leapfroglaw14x_UnspliceOut.l11 std rec [rv, pv, kv, P U, .int .i64 (n : Int)] s = rec [rv, pv, kv, P U, .int .i64 ((n + 1 : Nat) : Int)] s2 ∧ Go c (tellC c m okA) R rv pv ps' (upd g i (some (freed r))) s2 U := by
  obtain ⟨p, b, hq, me, v, A, ma, en⟩ := G.at ht hg
  obtain ⟨w, s1, q, e, told, A1, v1, L, k⟩ := vfree (t := n) G.f A v (by rw [h1, h2]; unfold okO; omega) hr
  rw [h1, h2] at e
  obtain ⟨s2, e2, G2⟩ := ask (kv := kv) (x := some _) hR G hq ht hn hx e told k A1 v1 L rec
  exact ⟨s2, _, e2, G2⟩
theorem goOut {c : Cf} {m : Mm} {R : List Rf} {rv pv kv : Value} {ps : List (Pr × Nat)} {g : Nat → Option Rc} {s : St} {U n i : Nat} {t : Rf} {r : Rc} (hR : OkR R) (G : Go c m R rv pv ps g s U) (ht : R[i]? = some t) (hg : g i = some r) (hn : n ≤ 8) (hr : r.held = true) (h1 : r.ha = 1) (h2 : r.ho = 1) (h3 : 1 ≤ i) (h4 : i + 1 < R.length)
    (hx : nextC c m = stepC 1 t ⟨8, 0, 0, zR, zR, 1, 1⟩ zRes) (rec : List Value → St → Option Cut) :
    ∃ s2 ps', leapfroglaw14x_UnspliceOut.l11 std rec [rv, pv, kv, P U, .int .i64 (n : Int)] s = rec [rv, pv, kv, P U, .int .i64 ((n + 1 : Nat) : Int)] s2 ∧ Go c (tellC c m okA) R rv pv ps' (upd g i none) s2 U := by
  obtain ⟨p, b, hq, me, v, A, ma, en⟩ := G.at ht hg
  have en : p.en = false := by
    cases h : p.en with
    | false => rfl
    | true => have := en.1 h; omega
  obtain ⟨w, s1, e, told, A1, k⟩ := vout (t := n) G.f A v hr en
  rw [h1, h2] at e
  obtain ⟨s2, e2, G2⟩ := ask (kv := kv) (x := none) (q := { p with L := [] }) hR G hq ht hn hx e told k A1 ⟨rfl, en⟩ ⟨rfl, rfl, rfl, rfl, rfl, rfl⟩ rec
  exact ⟨s2, _, e2, G2⟩

theorem eqR_self (a : Rf) : eqR a a = true := by unfold eqR; simp
theorem getD_of {R : List Rf} {j : Nat} {t : Rf} (h : R[j]? = some t) : R.getD j zR = t := by rw [List.getD_eq_getElem?_getD, h]; rfl
/-- All seven. -/
theorem seven {me pp ss : Rf} {R : List Rf} {rv pv kv : Value} {ps : List (Pr × Nat)} {s : St} {U k : Nat} (hR : OkR R) (k1 : 1 ≤ k) (k2 : k + 1 < R.length) (hm : R[k]? = some me) (hp : R[k - 1]? = some pp) (hs : R[k + 1]? = some ss)
    (G : Go ⟨0, 0, me, 1, 1⟩ m0 R rv pv ps (fun j => some (rec14 R j)) s U) :
    ∃ s2 ps' g, iter (leapfroglaw14x_UnspliceOut.l11 std) BIG [rv, pv, kv, P U, .int .i64 0] s = some ((0, [rv, pv, kv, P U, .int .i64 7], s2) : Cut) ∧ Go ⟨0, 0, me, 1, 1⟩ ⟨10, 10, pp, ss, 0⟩ R rv pv ps' g s2 U ∧
      g k = none ∧ ∀ j, j ≠ k → ∃ x, g j = some x ∧ x.held = false ∧ x.l = (if j = k + 1 then pp else (rec14 R j).l) ∧ x.r = (if j + 1 = k then ss else (rec14 R j).r) := by
  obtain ⟨N, hN⟩ : ∃ N, BIG = N + 1 + 1 + 1 + 1 + 1 + 1 + 1 + 1 := ⟨4611686018427387896, rfl⟩
  have lp : lessK pp.rk pp.n me.rk me.n := hR.up (k - 1) pp me hp (by rw [show k - 1 + 1 = k by omega]; exact hm)
  have ls : lessK me.rk me.n ss.rk ss.n := hR.up k me ss hm hs
  have lps : lessK pp.rk pp.n ss.rk ss.n := by
    have hi := hR.inner k me (by omega) k2 hm
    unfold lessK at lp ls ⊢
    omega
  have ok := fun {j : Nat} {t : Rf} (h : R[j]? = some t) => okRef_R hR h
  have dm := getD_of hm
  have dp := getD_of hp
  have ds := getD_of hs
  have rk : rec14 R k = ⟨0, 0, pp, ss, false, 0, 0⟩ := by unfold rec14; rw [if_neg (by omega), dp, ds]
  have rp : (rec14 R (k - 1)).r = me := by unfold rec14; rw [show k - 1 + 1 = k by omega, dm]
  have n1 : k - 1 ≠ k := by omega
  have n2 : k + 1 ≠ k := by omega
  have n3 : k ≠ k - 1 := by omega
  have n4 : k + 1 ≠ k - 1 := by omega
  have n5 : k - 1 ≠ k + 1 := by omega
  have n6 : k ≠ k + 1 := by omega
  obtain ⟨s1, p1, e1, G1⟩ := goRead (kv := kv) (n := 0) (r := rec14 R k) hR G hm rfl (by omega) rfl (iter (leapfroglaw14x_UnspliceOut.l11 std) (N + 1 + 1 + 1 + 1 + 1 + 1 + 1))
  have t1 : tellC ⟨0, 0, me, 1, 1⟩ m0 (ansR (rec14 R k)) = ⟨2, 0, pp, zR, 0⟩ := by
    rw [rk]; exact if_pos lp
  rw [t1] at G1
  obtain ⟨s2, p2, e2, G2⟩ := goLock (kv := kv) (n := 0 + 1) (r := rec14 R (k - 1)) hR G1 hp (by simp [upd, n1]) (by omega) rfl rfl (iter (leapfroglaw14x_UnspliceOut.l11 std) (N + 1 + 1 + 1 + 1 + 1 + 1))
  have t2 : tellC ⟨0, 0, me, 1, 1⟩ ⟨2, 0, pp, zR, 0⟩ (ansR (rec14 R (k - 1))) = ⟨3, 0, pp, zR, 0⟩ := by
    exact if_pos (by show eqR (rec14 R (k - 1)).r me = true; rw [rp]; exact eqR_self me)
  rw [t2] at G2
  obtain ⟨s3, p3, e3, G3⟩ := goLock (kv := kv) (n := 0 + 1 + 1) (r := rec14 R k) hR G2 hm (by simp [upd, n3]) (by omega) rfl rfl (iter (leapfroglaw14x_UnspliceOut.l11 std) (N + 1 + 1 + 1 + 1 + 1))
  have t3 : tellC ⟨0, 0, me, 1, 1⟩ ⟨3, 0, pp, zR, 0⟩ (ansR (rec14 R k)) = ⟨4, 0, pp, ss, 0⟩ := by
    rw [rk]; exact if_pos ls
  rw [t3] at G3
  obtain ⟨s4, p4, e4, G4⟩ := goRight (kv := kv) (n := 0 + 1 + 1 + 1) (r := lockd (rec14 R (k - 1)) 1 1) (y := ss) hR G3 hp (by simp [upd, n1]) (by omega) rfl rfl rfl (ok hs) lps rfl (iter (leapfroglaw14x_UnspliceOut.l11 std) (N + 1 + 1 + 1 + 1))
  have t4 : tellC ⟨0, 0, me, 1, 1⟩ ⟨4, 0, pp, ss, 0⟩ okA = ⟨5, 0, pp, ss, 0⟩ := rfl
  rw [t4] at G4
  obtain ⟨s5, p5, e5, G5⟩ := goLeft (kv := kv) (n := 0 + 1 + 1 + 1 + 1) (r := rec14 R (k + 1)) (y := pp) hR G4 hs (by simp [upd, n2, n4]) (by omega) (fun _ => ⟨rfl, rfl⟩) (ok hp) lps rfl (iter (leapfroglaw14x_UnspliceOut.l11 std) (N + 1 + 1 + 1))
  have t5 : tellC ⟨0, 0, me, 1, 1⟩ ⟨5, 0, pp, ss, 0⟩ okA = ⟨6, 0, pp, ss, 0⟩ := rfl
  rw [t5] at G5
  obtain ⟨s6, p6, e6, G6⟩ := goOut (kv := kv) (n := 0 + 1 + 1 + 1 + 1 + 1) (r := lockd (rec14 R k) 1 1) hR G5 hm (by simp [upd, n3, n6]) (by omega) rfl rfl rfl k1 k2 rfl (iter (leapfroglaw14x_UnspliceOut.l11 std) (N + 1 + 1))
  have t6 : tellC ⟨0, 0, me, 1, 1⟩ ⟨6, 0, pp, ss, 0⟩ okA = ⟨8, 10, pp, ss, 0⟩ := rfl
  rw [t6] at G6
  obtain ⟨s7, p7, e7, G7⟩ := goFree (kv := kv) (n := 0 + 1 + 1 + 1 + 1 + 1 + 1) (r := { (lockd (rec14 R (k - 1)) 1 1) with r := ss }) hR G6 hp (by simp [upd, n1, n5]) (by omega) rfl rfl rfl rfl (iter (leapfroglaw14x_UnspliceOut.l11 std) (N + 1))
  have t7 : tellC ⟨0, 0, me, 1, 1⟩ ⟨8, 10, pp, ss, 0⟩ okA = ⟨10, 10, pp, ss, 0⟩ := rfl
  rw [t7] at G7
  have n8 := next_r G7.u G7.i.1 G7.i.2.1
  rw [show nextC ⟨0, 0, me, 1, 1⟩ ⟨10, 10, pp, ss, 0⟩ = stepC 3 zR zAsk ⟨0, 0, zR, zR, false⟩ from rfl] at n8
  have e8 : leapfroglaw14x_UnspliceOut.l11 std (iter (leapfroglaw14x_UnspliceOut.l11 std) N) [rv, pv, kv, P U, .int .i64 ((0 + 1 + 1 + 1 + 1 + 1 + 1 + 1 : Nat) : Int)] s7 = some ((0, [rv, pv, kv, P U, .int .i64 7], s7) : Cut) := by
    rw [show ((0 + 1 + 1 + 1 + 1 + 1 + 1 + 1 : Nat) : Int) = 7 from rfl]
    simp only [leapfroglaw14x_UnspliceOut.l11, sy, reduceIte, Nat.reduceAdd, Nat.reduceLeDiff, Nat.reduceLT, Nat.reduceEqDiff, Int.reduceEq, Int.reduceLT, Int.reduceLE, Int.reduceNe, ly, n8]
  refine ⟨s7, p7, _, ?_, G7, by simp [upd, n3, n6], fun j hj => ?_⟩
  · rw [hN, iter_succ, show (Value.int .i64 0) = .int .i64 ((0 : Nat) : Int) from rfl, e1, iter_succ, e2, iter_succ, e3, iter_succ, e4, iter_succ, e5, iter_succ, e6, iter_succ, e7, iter_succ, e8]
  · by_cases h1 : j = k - 1
    · subst h1
      refine ⟨freed { (lockd (rec14 R (k - 1)) 1 1) with r := ss }, by simp [upd], rfl, ?_, ?_⟩
      · rw [if_neg n5]; rfl
      · rw [if_pos (by omega)]; rfl
    · by_cases h2 : j = k + 1
      · subst h2
        refine ⟨{ (rec14 R (k + 1)) with l := pp }, by simp [upd, n2, n4], rfl, by rw [if_pos rfl], by rw [if_neg (by omega)]⟩
      · exact ⟨rec14 R j, by simp [upd, hj, h1, h2], rfl, by rw [if_neg h2], by rw [if_neg (by omega)]⟩

/-- Each peer that stays shows its sides. -/
theorem stays {R2 : List Rf} {P2 : List (Pr × Nat)} {pv kv rv2 pv2 bv : Value} {s : St} (f : Fresh s) (h1 : IsR s 5 rv2 (R2.map Rf.cs)) (h2 : IsR s 1 pv2 (P2.map PB)) (hl : P2.length = R2.length) (hs : R2.length ≤ 1000)
    (ha : ∀ (j : Nat) q, P2[j]? = some q → AtP q.1 s q.2 ∧ ∃ x, getC q.1 0 0 = some x ∧ q.1.L.any Rc.held = false ∧ q.1.ma = false ∧ (∀ i, j = i + 1 → R2[i]? = some x.l) ∧ ∀ y, R2[j + 1]? = some y → y = x.r) :
    ∃ s', iter (leapfroglaw14x_UnspliceOut.l28 std) BIG [pv, kv, rv2, pv2, bv, .int .i64 ((0 : Nat) : Int)] s = some ((0, [pv, kv, bv], s') : Cut) ∧ More s s' ∧ Fresh s' := by
  refine iter_rel (fun d xs s' => ∃ i : Nat, i + d = R2.length ∧ More s s' ∧ Fresh s' ∧ xs = [pv, kv, rv2, pv2, bv, .int .i64 (i : Int)])
    (fun y : Option Cut => ∃ s', y = some ((0, [pv, kv, bv], s') : Cut) ∧ More s s' ∧ Fresh s') ?_ BIG R2.length _ s (by unfold BIG; omega) ⟨0, by omega, .refl _, f, rfl⟩
  rintro d xs s' rec ⟨i, hi, hm, hf, rfl⟩ ih
  have g1 := h1.more hm f
  have g2 := h2.more hm f
  have hlen := g1.len
  rw [List.length_map] at hlen
  cases d with
  | zero =>
    have e1 : ¬ ((i : Int) < R2.length) := by omega
    exact ⟨s', by simp only [leapfroglaw14x_UnspliceOut.l28, sy, reduceIte, Nat.reduceAdd, Nat.reduceLeDiff, Nat.reduceLT, Nat.reduceEqDiff, Int.reduceEq, Int.reduceLT, Int.reduceLE, Int.reduceNe, ly, hlen, e1], hm, hf⟩
  | succ d =>
    have e1 : (i : Int) < R2.length := by omega
    have e5 : IntKind.i64.wrap ((i : Int) + 1) = ((i + 1 : Nat) : Int) := by rw [wrap64 (by omega) (by omega)]; omega
    obtain ⟨q, hq⟩ := get_some (l := P2) (j := i) (by omega)
    obtain ⟨A, x, x1, x2, x3, x4, x5⟩ := ha i q hq
    obtain ⟨s1, r1, m1, f1⟩ := read14_r hf (A.more hm f)
    rw [x1] at r1
    simp only [ofC, Option.isSome_some, x3] at r1
    have gm2 := g2.more m1 hf
    have gm1 := g1.more m1 hf
    obtain ⟨s2, r2, m2, f2⟩ := held14_r f1 ((A.more hm f).more m1 hf)
    rw [x2] at r2
    have gn2 := gm2.more m2 f1
    have gn1 := gm1.more m2 f1
    obtain ⟨_, _, i1, i2, i3⟩ := g2.at2 (pb_get hq)
    obtain ⟨_, _, j1, j2, j3⟩ := gm2.at2 (pb_get hq)
    obtain ⟨_, _, k1, k2, k3⟩ := gn2.at2 (pb_get hq)
    have fin := ih d [pv, kv, rv2, pv2, bv, .int .i64 ((i + 1 : Nat) : Int)] s2 (by omega) ⟨i + 1, by omega, (hm.trans m1).trans m2, f2, rfl⟩
    have key : leapfroglaw14x_UnspliceOut.l28 std rec [pv, kv, rv2, pv2, bv, .int .i64 (i : Int)] s' = rec [pv, kv, rv2, pv2, bv, .int .i64 ((i + 1 : Nat) : Int)] s2 := by
      have sl := same5r x.l
      have sr := same5r x.r
      have ql := eqks_f x.l x.l
      have qr := eqks_f x.r x.r
      rw [sameF_self] at ql qr
      simp only [Rf.cs] at ql qr
      have right : ∀ y, R2[i + 1]? = some y → y = x.r := x5
      by_cases c2 : i + 1 < R2.length
      · obtain ⟨y, hy⟩ := get_some (l := R2) (j := i + 1) c2
        have := x5 y hy
        subst this
        obtain ⟨_, _, u1, u2, u3⟩ := gm1.at2 (rf_get hy)
        obtain ⟨_, _, v1, v2, v3⟩ := gn1.at2 (rf_get hy)
        have c2' : (((i + 1 : Nat) : Int)) < R2.length := by omega
        by_cases c1 : 0 < i
        · have c1' : 0 < (i : Int) := by omega
          have e6 : IntKind.i64.wrap ((i : Int) - 1) = ((i - 1 : Nat) : Int) := by rw [wrap64 (by omega) (by omega)]; omega
          have hz := x4 (i - 1) (by omega)
          obtain ⟨_, _, w1, w2, w3⟩ := gm1.at2 (rf_get hz)
          obtain ⟨_, _, z1, z2, z3⟩ := gn1.at2 (rf_get hz)
          rw [w2] at u2
          cases u2
          rw [z2] at v2
          cases v2
          simp only [leapfroglaw14x_UnspliceOut.l28, leapfroglaw14x_UnspliceOut.l28.p1, neb_agg, sy, reduceIte, Nat.reduceAdd, Nat.reduceLeDiff, Nat.reduceLT, Nat.reduceEqDiff, Int.reduceEq, Int.reduceLT, Int.reduceLE, Int.reduceNe, ly, hlen, e1, i1, ldc_row i2, i3, r1, e5, e6, c1', w1, lda_row w2, w3, ql, c2', u1, u3, qr, j1, ldc_row j2, j3, r2, z1, samePj, sameII, lda_row z2, z3, sl, v1, v3, sr, k1]
        · have c1' : ¬ 0 < (i : Int) := by omega
          simp only [leapfroglaw14x_UnspliceOut.l28, leapfroglaw14x_UnspliceOut.l28.p1, neb_agg, sy, reduceIte, Nat.reduceAdd, Nat.reduceLeDiff, Nat.reduceLT, Nat.reduceEqDiff, Int.reduceEq, Int.reduceLT, Int.reduceLE, Int.reduceNe, ly, hlen, e1, i1, ldc_row i2, i3, r1, e5, c1', c2', u1, lda_row u2, u3, qr, j1, ldc_row j2, j3, r2, v1, samePj, sameII, lda_row v2, v3, sr, k1, sameU]
      · have c2' : ¬ (((i + 1 : Nat) : Int)) < R2.length := by omega
        by_cases c1 : 0 < i
        · have c1' : 0 < (i : Int) := by omega
          have e6 : IntKind.i64.wrap ((i : Int) - 1) = ((i - 1 : Nat) : Int) := by rw [wrap64 (by omega) (by omega)]; omega
          have hz := x4 (i - 1) (by omega)
          obtain ⟨_, _, w1, w2, w3⟩ := gm1.at2 (rf_get hz)
          obtain ⟨_, _, z1, z2, z3⟩ := gn1.at2 (rf_get hz)
          simp only [leapfroglaw14x_UnspliceOut.l28, leapfroglaw14x_UnspliceOut.l28.p1, neb_agg, sy, reduceIte, Nat.reduceAdd, Nat.reduceLeDiff, Nat.reduceLT, Nat.reduceEqDiff, Int.reduceEq, Int.reduceLT, Int.reduceLE, Int.reduceNe, ly, hlen, e1, i1, ldc_row i2, i3, r1, e5, e6, c1', w1, lda_row w2, w3, ql, c2', j1, ldc_row j2, j3, r2, z1, samePj, sameII, lda_row z2, z3, sl, k1, sameU]
        · have c1' : ¬ 0 < (i : Int) := by omega
          simp only [leapfroglaw14x_UnspliceOut.l28, leapfroglaw14x_UnspliceOut.l28.p1, neb_agg, sy, reduceIte, Nat.reduceAdd, Nat.reduceLeDiff, Nat.reduceLT, Nat.reduceEqDiff, Int.reduceEq, Int.reduceLT, Int.reduceLE, Int.reduceNe, ly, hlen, e1, i1, ldc_row i2, i3, r1, e5, c1', c2', j1, ldc_row j2, j3, r2, samePj, sameII, k1, sameU]
    rw [key]
    exact fin

theorem isW_of {s : St} {v : Value} (h : Leaf.Is s (.sl [.i .u64]) v) : ∃ l : List Int, IsR s 1 v (l.map U1) := by
  unfold Leaf.Is at h
  rcases h with rfl | ⟨b, len, cap, rows, rfl, h1, h2, h3, h4, h5⟩
  · exact ⟨[], .nil⟩
  · have h3 : s.get b = some (.row 1 rows true) := h3
    have g : ∀ r ∈ rows, ∃ n, r = U1 n := by
      intro r hr
      have := h5 r hr
      unfold Leaf.Are Leaf.Are Leaf.Is at this
      obtain ⟨_, _, rfl, ⟨n, rfl, hn⟩, rfl⟩ := this
      exact ⟨n, rfl⟩
    have key : ∀ rs : List (List Value), (∀ r ∈ rs, ∃ n, r = U1 n) → ∃ l : List Int, rs = l.map U1 := by
      intro rs
      induction rs with
      | nil => intro _; exact ⟨[], rfl⟩
      | cons r rs ih =>
        intro hr
        obtain ⟨n, rfl⟩ := hr r (by simp)
        obtain ⟨l, rfl⟩ := ih fun x hx => hr x (by simp [hx])
        exact ⟨n :: l, rfl⟩
    obtain ⟨l, hl⟩ := key (rows.take len) fun r hr => g r (List.mem_of_mem_take hr)
    have hlen : l.length = len := by have := congrArg List.length hl; rw [List.length_take, List.length_map] at this; omega
    exact ⟨l, .inr ⟨b, 2 * cap, rows, true, by rw [List.length_map, hlen], h3, by rw [List.length_map, hlen]; exact hl⟩⟩
theorem without_get {α : Type} {l : List α} {k j : Nat} : (l.take k ++ l.drop (k + 1))[j]? = l[if j < k then j else j + 1]? := by
  rw [← List.eraseIdx_eq_take_drop_succ, List.getElem?_eraseIdx]
  split <;> rfl
/-- Who stays shows what is to its sides. -/
theorem shows {R : List Rf} {rv pv : Value} {ps : List (Pr × Nat)} {g : Nat → Option Rc} {s : St} {k : Nat} {pp ss : Rf} (W : Wm R rv pv ps g s) (hR : OkR R) (k1 : 1 ≤ k) (k2 : k + 1 < R.length) (hp : R[k - 1]? = some pp) (hs : R[k + 1]? = some ss)
    (gj : ∀ j, j ≠ k → ∃ x, g j = some x ∧ x.held = false ∧ x.l = (if j = k + 1 then pp else (rec14 R j).l) ∧ x.r = (if j + 1 = k then ss else (rec14 R j).r)) :
    ∀ (j : Nat) q, (ps.take k ++ ps.drop (k + 1))[j]? = some q → AtP q.1 s q.2 ∧ ∃ x, getC q.1 0 0 = some x ∧ q.1.L.any Rc.held = false ∧ q.1.ma = false ∧ (∀ i, j = i + 1 → (R.take k ++ R.drop (k + 1))[i]? = some x.l) ∧ ∀ y, (R.take k ++ R.drop (k + 1))[j + 1]? = some y → y = x.r := by
  intro j q hq
  rw [without_get] at hq
  have hne : (if j < k then j else j + 1) ≠ k := by split <;> omega
  obtain ⟨x, x1, x2, x3, x4⟩ := gj _ hne
  have v := W.v _ _ hq
  rw [x1] at v
  have hil : (if j < k then j else j + 1) < R.length := by rw [← W.l]; exact (List.getElem?_eq_some_iff.1 hq).1
  have gd : ∀ {i : Nat} {y : Rf}, R[i]? = some y → y = R.getD i zR := fun h => (getD_of h).symm
  have at' : ∀ i, i < R.length → R[i]? = some (R.getD i zR) := fun i hi => by rw [List.getD_eq_getElem?_getD, List.getElem?_eq_getElem hi]; rfl
  refine ⟨W.w.p _ _ hq, x, v.get, v.free x2, (W.m _ _ hq).2.2, fun i hi => ?_, fun y hy => ?_⟩
  · rw [without_get, x3]
    subst hi
    by_cases c1 : i + 1 < k
    · rw [if_pos c1, if_pos (by omega), if_neg (by omega), show (rec14 R (i + 1)).l = R.getD i zR by unfold rec14; rw [if_neg (by omega)]; rfl]
      exact at' i (by omega)
    · rw [if_neg c1] at hil ⊢
      by_cases c2 : i + 1 = k
      · rw [if_pos (by omega), if_pos (by omega), show i = k - 1 by omega]
        exact hp
      · rw [if_neg (by omega), if_neg (by omega), show (rec14 R (i + 1 + 1)).l = R.getD (i + 1) zR by unfold rec14; rw [if_neg (by omega)]; rfl]
        exact at' (i + 1) (by omega)
  · rw [without_get] at hy
    rw [x4]
    by_cases c1 : j < k
    · rw [if_pos c1]
      by_cases c2 : j + 1 = k
      · rw [if_neg (by omega)] at hy
        rw [if_pos c2]
        rw [show j + 1 + 1 = k + 1 by omega, hs] at hy
        exact (Option.some.inj hy).symm
      · rw [if_pos (by omega)] at hy
        rw [if_neg c2]
        exact gd hy
    · rw [if_neg c1, if_neg (by omega)]
      rw [if_neg (by omega)] at hy
      exact gd hy
theorem alive_ro (s : St) : leapfroglaw14x_awakeC.r s = some (.bool true) := rfl
theorem owner_ro (s : St) : leapfroglaw14x_Owner.r s = some (.agg ⟨[.int .i64 1, .int .i64 1]⟩) := rfl
theorem tmod_n {a : Int} {k : Nat} (ha : 0 ≤ a) (hk : 0 < k) : ∃ n : Nat, a.tmod (k : Int) = (n : Int) ∧ n < k := by
  refine ⟨(a.tmod k).toNat, ?_, ?_⟩
  · have := Int.tmod_nonneg (k : Int) ha; omega
  · have := Int.tmod_nonneg (k : Int) ha
    have := Int.tmod_lt_of_pos a (show (0 : Int) < k by omega)
    omega
theorem law (s : St) (us : List Value) (ha : AllRo s) (hf : ∀ b, s.n ≤ b → s.get b = none) (h : Args s [(false, [.sl [.i .u64]]), (false, [.i .u8])] us) :
    ∃ s', leapfroglaw14x_UnspliceOut.w us s = some (.bool true, s') := by
  simp only [Args, Arg, Leaf.Are] at h
  obtain ⟨kv, _, rfl, ⟨_, _, g0, h0, rfl⟩, a1, _, rfl, ⟨_, _, g1, h1, rfl⟩, rfl⟩ := h
  cases g0; cases g1
  unfold Leaf.Is at h1
  obtain ⟨x, rfl, w1⟩ := h1
  have w1 := wf_u8 w1
  have hf : Fresh s := hf
  obtain ⟨ks, hk⟩ := isW_of h0
  obtain ⟨rv, pv, s1, ps, e1, f1, W0, hv⟩ := list14 hk hf
  have hR := mkR_ok (srtN_spec (ks.take 12)).1 (by have := (srtN_spec (ks.take 12)).2.2; rw [List.length_take] at this; omega)
  show ∃ s', leapfroglaw14x_UnspliceOut.v kv (.int .u8 x) s = some (.bool true, s')
  generalize mkR (srtN (ks.take 12)) = R at *
  have h900 := hR.len
  have W : Wm R rv pv ps (fun j => some (rec14 R j)) s1 := ⟨W0.r, W0.p, W0.w, W0.l, fun j q hq => (hv j q hq).1, fun j q hq => (hv j q hq).2⟩
  have hlen := W0.r.isR.len
  rw [List.length_map] at hlen
  by_cases hz : R.length = 2
  · have hz' : (R.length : Int) = 2 := by omega
    exact ⟨s1, by simp only [leapfroglaw14x_UnspliceOut.v, leapfroglaw14x_UnspliceOut.t, sy, reduceIte, Nat.reduceAdd, Nat.reduceLeDiff, Nat.reduceLT, Nat.reduceEqDiff, Int.reduceEq, Int.reduceLT, Int.reduceLE, Int.reduceNe, ly, alive_ro, e1, hlen, hz']⟩
  · have hz' : ¬ (R.length : Int) = 2 := by omega
    have ew : IntKind.i64.wrap x = x := wrap64 (by omega) (by omega)
    have ew2 : IntKind.i64.wrap ((R.length : Int) - 2) = ((R.length - 2 : Nat) : Int) := by rw [wrap64 (by omega) (by omega)]; omega
    obtain ⟨kk, ek, hkk⟩ := tmod_n (k := R.length - 2) w1.1 (by omega)
    have hnz : ((R.length - 2 : Nat) : Int) ≠ 0 := by omega
    have er : bin .rem (.int .i64 x) (.int .i64 ((R.length - 2 : Nat) : Int)) = some (.int .i64 (kk : Int)) := by rw [bin_rem hnz, ek]
    have ew3 : IntKind.i64.wrap (1 + (kk : Int)) = ((kk + 1 : Nat) : Int) := by rw [wrap64 (by omega) (by omega)]; omega
    obtain ⟨me, hm⟩ := get_some (l := R) (j := kk + 1) (by omega)
    obtain ⟨pp, hp⟩ := get_some (l := R) (j := kk + 1 - 1) (by omega)
    obtain ⟨ss, hs⟩ := get_some (l := R) (j := kk + 1 + 1) (by omega)
    obtain ⟨c1, c2, c3, c4⟩ := hR.inner (kk + 1) me (by omega) (by omega) hm
    have okc : okC ⟨0, 0, me, 1, 1⟩ := by
      refine ⟨c1, by show okV me.ln me.bt; rw [c2, c3]; exact okV0, okV0, ⟨by show (0 : Int) ≤ me.ln; omega, by show me.bt.toNat / 2 ^ (me.ln.toNat - (0 : Int).toNat) = (0 : Int).toNat; rw [c2, c3]; rfl⟩, by show okO 1 1; unfold okO; omega⟩
    rcases new_r (s := s1) f1 ⟨0, 0, me, 1, 1⟩ (by show 0 ≤ me.bt; omega) (by show (0 : Int) ≤ 0; omega) with ⟨_, _, no⟩ | ⟨q1, _, _⟩
    · exact absurd okc no
    · have f2 : Fresh (s1.new (.row 22 [urow ⟨0, 0, me, 1, 1⟩ m0] false)) := f1.new
      have m2 : More s1 (s1.new (.row 22 [urow ⟨0, 0, me, 1, 1⟩ m0] false)) := .new
      have u2 : Row (s1.new (.row 22 [urow ⟨0, 0, me, 1, 1⟩ m0] false)) s1.n (urow ⟨0, 0, me, 1, 1⟩ m0) := get_new_same
      generalize s1.new (.row 22 [urow ⟨0, 0, me, 1, 1⟩ m0] false) = s2 at *
      have W2 := W.stp (StpK.more (ks := []) m2 f1) (by simp) (by simp) (by simp) (by simp)
      obtain ⟨s3, ps3, g, e3, G, gk, gj⟩ := seven (kv := .int .i64 ((kk + 1 : Nat) : Int)) hR (by omega) (by omega) hm hp hs ⟨W2, u2, by unfold InvM m0; simp, f2⟩
      have n3 := next_r G.u G.i.1 G.i.2.1
      rw [show nextC ⟨0, 0, me, 1, 1⟩ ⟨10, 10, pp, ss, 0⟩ = stepC 3 zR zAsk ⟨0, 0, zR, zR, false⟩ from rfl] at n3
      have e5 : IntKind.i64.wrap (((kk + 1 : Nat) : Int) + 1) = ((kk + 1 + 1 : Nat) : Int) := by rw [wrap64 (by omega) (by omega)]; omega
      obtain ⟨x99, x101, v3, sa, v4, s4, a1, a2, a3, a4, a5, a6, m4, f4, F4⟩ := without_r (by_ := 40) G.f G.w.r (k := kk + 1) (by omega) (by rw [List.length_map]; omega) (by rw [List.length_map]; omega) (by rw [List.length_map]; omega)
      have P4 := G.w.p.more m4 G.f
      have hpl := G.w.l
      obtain ⟨y99, y101, v5, sb, v6, s5, b1, b2, b3, b4, b5, b6, m5, f5, F5⟩ := without_r (by_ := 8) f4 P4 (k := kk + 1) (by omega) (by rw [List.length_map]; omega) (by rw [List.length_map]; omega) (by rw [List.length_map]; omega)
      have P5 := P4.more m5 f4
      obtain ⟨⟨pk, bk⟩, hpk⟩ := get_some (l := ps3) (j := kk + 1) (by omega)
      obtain ⟨_, _, i1, i2, i3⟩ := W2.r.isR.at2 (rf_get hm)
      obtain ⟨_, _, j1, j2, j3⟩ := W.r.isR.at2 (rf_get hm)
      obtain ⟨_, _, k1, k2, k3⟩ := P5.isR.at2 (pb_get hpk)
      have W5 := (G.w.stp (StpK.more (ks := []) m4 G.f) (by simp) (by simp) (by simp) (by simp)).stp (StpK.more (ks := []) m5 f4) (by simp) (by simp) (by simp) (by simp)
      have vk := W5.v _ _ hpk
      rw [gk] at vk
      obtain ⟨s6, r6, m6, f6⟩ := read14_r f5 (W5.w.p _ _ hpk)
      rw [get_none vk.2 vk.1] at r6
      simp only [Option.isSome_none] at r6
      rw [← List.map_take, ← List.map_drop, ← List.map_append] at F4 F5
      have W6 := W5.stp (StpK.more (ks := []) m6 f5) (by simp) (by simp) (by simp) (by simp)
      obtain ⟨s7, e7, m7, f7⟩ := stays (pv := pv) (kv := .int .i64 ((kk + 1 : Nat) : Int)) (bv := .bool false) f6 ((F4.isR.more m5 f4).more m6 f5) (F5.isR.more m6 f5) (by simp; omega) (by simp; omega) (shows W6 hR (by omega) (by omega) hp hs gj)
      have W7 := W6.stp (StpK.more (ks := []) m7 f6) (by simp) (by simp) (by simp) (by simp)
      obtain ⟨_, _, l1, l2, l3⟩ := W7.p.isR.at2 (pb_get hpk)
      obtain ⟨s8, e8, m8, f8⟩ := held14_r f7 (W7.w.p _ _ hpk)
      have hk0 : pk.L.any Rc.held = false := by rw [show pk.L = [] from vk.1]; rfl
      have z0 : ((0 : Nat) : Int) = 0 := rfl
      rw [z0] at e7
      have sm := same5r me
      refine ⟨s8, ?_⟩
      simp only [leapfroglaw14x_UnspliceOut.v, leapfroglaw14x_UnspliceOut.t, leapfroglaw14x_UnspliceOut.t.p1, leapfroglaw14x_UnspliceOut.t.p2, sy, reduceIte, Nat.reduceAdd, Nat.reduceLeDiff, Nat.reduceLT, Nat.reduceEqDiff, Int.reduceEq, Int.reduceLT, Int.reduceLE, Int.reduceNe, ly, alive_ro, owner_ro, e1, hlen, hz', ew, ew2, er, ew3, j1, lda_row j2, j3, q1, i1, samePj, lda_row i2, i3, sm, e3, n3, e5, a1, a2, a3, a4, a5, a6, als_eq, Nat.reduceMul, List.replicate_zero, b1, b2, b3, b4, b5, b6, k1, ldc_row k2, k3, r6, e7, l1, ldc_row l2, l3, e8, hk0]
end UnspliceOut
end Go.Proofs.Ytkkgegocliobpaa
