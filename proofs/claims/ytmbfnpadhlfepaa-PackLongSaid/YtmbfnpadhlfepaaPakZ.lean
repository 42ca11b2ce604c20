/-
  The reference's First; the fields that bytes are; two rows of fields that are the same.
-/
import Derived.Test.YtmbfnpadhlfepaaPakY
set_option linter.unusedSimpArgs false
set_option linter.unusedVariables false
set_option maxRecDepth 100000
set_option maxHeartbeats 4000000
namespace Go.Proofs.Ytmbfnpadhlfepaa
open Go.Sim Go.Sim.Bt
attribute [local congr] bdc cndc itec gdc gdSc gdUc

open Classical in
theorem rkindloop {n : Nat} {s : St} {a0 v : Value} {ks : List Int} (h : KL n s v ks) (hb : ks.length ≤ 1000000) : ∀ (d j : Nat), j + d = ks.length → ∀ e, iter (leapfrogref03x_First.l2 std) (e + d + 1) [a0, v, .int .i64 (j : Int)] s
    = if ∀ k ∈ ks.drop j, isKd k then some (0, [a0, v], s) else some (1, [nilB, .int .i64 0, .int .i64 30], s)
  | 0, j, hj, e => by
    have : j = ks.length := by omega
    subst this
    have hl := h.len
    have lt1 : bin .lss (.int .i64 (ks.length : Int)) (.int .i64 (ks.length : Int)) = some (.bool false) := by
      rw [bin_lss, decide_eq_false (by omega)]
    rw [iter_succ, if_pos (by intro p hp; simp at hp)]
    unfold leapfrogref03x_First.l2
    simp only [std_bd, std_cnd, List.getD_cons_zero, List.getD_cons_succ, hl, lt1, bds, cnd]
  | d + 1, j, hj, e => by
    have ih := rkindloop (a0 := a0) h hb d (j + 1) (by omega) e
    have hl := h.len
    obtain ⟨k, hk⟩ := get_some (l := ks) (j := j) (by omega)
    obtain ⟨q, q1, q2⟩ := KL.at h hk
    have hi := rkind_r k s
    have lt0 : bin .lss (.int .i64 (j : Int)) (.int .i64 (ks.length : Int)) = some (.bool true) := by
      rw [bin_lss, decide_eq_true (by omega)]
    have add0 : bin .add (.int .i64 (j : Int)) (.int .i64 1) = some (.int .i64 ((j + 1 : Nat) : Int)) := by
      rw [bin_add, wrap64 (by omega) (by omega)]; rfl
    have nt : un .not (.bool true) = some (.bool false) := rfl
    have nf : un .not (.bool false) = some (.bool true) := rfl
    rw [show e + (d + 1) + 1 = (e + d + 1) + 1 by omega, iter_succ, drop_get hk]
    revert ih
    generalize iter (leapfrogref03x_First.l2 std) (e + d + 1) = R
    intro ih
    unfold leapfrogref03x_First.l2
    by_cases ok : isKd k
    · rw [decide_eq_true ok] at hi
      simp only [std_bd, std_cnd, List.getD_cons_zero, List.getD_cons_succ, hl, lt0, q1, q2, hi, nt, add0, bds, cnd]
      simp only [List.mem_cons, forall_eq_or_imp, ok, true_and]
      exact ih
    · rw [decide_eq_false ok] at hi
      simp only [std_bd, std_cnd, List.getD_cons_zero, List.getD_cons_succ, hl, lt0, q1, q2, hi, nf, bds, cnd]
      simp only [List.mem_cons, forall_eq_or_imp, ok, false_and, if_false]
      rfl
/-- What the reference's reading has in memory: the reader `N`; all else behind it. -/
structure RsAt (N n1 : Nat) (s0 : St) (bv lv : Value) (bs : List Int) (fs : List FB) (p : Nat) (s : St) : Prop where
  rd : RrAt n1 N bv bs p 0 s
  lst : Ful (N + 1) s 14 lv (fs.map fun p => p.1.cs)
  byt : ∀ p ∈ fs, FdA p.1 ∧ Ful (N + 1) s 1 p.1.b (br p.2)
  le : N + 1 ≤ s.n
  old : ∀ x, x < N → s.get x = s0.get x
def RLIs (N n1 : Nat) (s0 : St) (bv : Value) (bs : List Int) (r : Nat → Option Cut) : RdR (List FB) → Prop
  | .ok gs q => ∃ s' lv fs, (∀ e, r e = some (0, [rpt N, lv], s')) ∧ RsAt N n1 s0 bv lv bs fs q s' ∧ fs.map clr = gs
  | .bad er q => ∃ s', (∀ e, r e = some (1, [nilB, .int .i64 (q : Int), .int .i64 er], s')) ∧ Fresh s' ∧ N + 1 ≤ s'.n ∧ (∀ x, x < N → s'.get x = s0.get x)
theorem rfieldsloop {N n1 n : Nat} {s0 : St} {bv v : Value} {bs ks : List Int} (hn : n ≤ N) (hn1 : n1 ≤ N) (hk : KL n s0 v ks) (hks : ks.length ≤ 1000000) : ∀ (d j : Nat), j + d = ks.length → ∀ {p : Nat} {fs : List FB} {lv : Value} {s : St}, fs.length = j → RsAt N n1 s0 bv lv bs fs p s →
    RLIs N n1 s0 bv bs (fun e => iter (leapfrogref03x_First.l9 std) (e + d + 1) [v, rpt N, lv, .int .i64 (j : Int)] s) (firstL bs (ks.drop j) p (fs.map clr))
  | 0, j, hj, p, fs, lv, s, hfs, h => by
    have : j = ks.length := by omega
    subst this
    rw [List.drop_length]
    unfold firstL
    refine ⟨s, lv, fs, fun e => ?_, h, rfl⟩
    have hl := KL.len (hk.to fun x hx => h.old x (by omega))
    have lt1 : bin .lss (.int .i64 (ks.length : Int)) (.int .i64 (ks.length : Int)) = some (.bool false) := by
      rw [bin_lss, decide_eq_false (by omega)]
    dsimp only
    rw [iter_succ]
    unfold leapfrogref03x_First.l9
    simp only [std_bd, std_cnd, List.getD_cons_zero, List.getD_cons_succ, hl, lt1, bds, cnd]
  | d + 1, j, hj, p, fs, lv, s, hfs, h => by
    obtain ⟨k, hkj⟩ := get_some (l := ks) (j := j) (by omega)
    have hk' : KL n s v ks := hk.to fun x hx => h.old x (by omega)
    have hl := KL.len hk'
    obtain ⟨q0, q1, q2⟩ := KL.at hk' hkj
    have lt0 : bin .lss (.int .i64 (j : Int)) (.int .i64 (ks.length : Int)) = some (.bool true) := by
      rw [bin_lss, decide_eq_true (by omega)]
    have add0 : bin .add (.int .i64 (j : Int)) (.int .i64 1) = some (.int .i64 ((j + 1 : Nat) : Int)) := by
      rw [bin_add, wrap64 (by omega) (by omega)]; rfl
    have hq := rfield_v h.rd k
    have hle := h.le
    have nk : nck (rpt N) = some (rpt N) := rfl
    have f1 : fld 1 (rpt N) = some (.pointer (some ⟨N, 0, some 1⟩)) := rfl
    have f2 : fld 2 (rpt N) = some (.pointer (some ⟨N, 0, some 2⟩)) := rfl
    rw [drop_get hkj]
    unfold firstL
    -- whichever field is appended
    have key : ∀ (f : Fd) {q : Nat} {er : Int} {s1 : St}, leapfrogref03x_Reader_field.v (rpt N) (.int .i64 k) s = some (f.v, s1) → RrAt n1 N bv bs q er s1 → RdS N s s1 →
        ∃ lv' s2, RrAt n1 N bv bs q er s2 ∧ StpK [14] s1 s2 ∧ N + 1 ≤ s2.n ∧ (∀ x, x < N → s2.get x = s0.get x) ∧ Ful (N + 1) s2 14 lv' (fs.map (fun p => p.1.cs) ++ [f.cs]) ∧
          (er = 0 → ∀ e, iter (leapfrogref03x_First.l9 std) (e + 1) [v, rpt N, lv, .int .i64 (j : Int)] s = iter (leapfrogref03x_First.l9 std) e [v, rpt N, lv', .int .i64 ((j + 1 : Nat) : Int)] s2) ∧
          (er ≠ 0 → ∀ e, iter (leapfrogref03x_First.l9 std) (e + 1) [v, rpt N, lv, .int .i64 (j : Int)] s = some (1, [nilB, .int .i64 (q : Int), .int .i64 er], s2)) := by
      intro f q er s1 g1 k1 k2
      have hl1 : Ful (N + 1) s1 14 lv (fs.map fun p => p.1.cs) := h.lst.rdS (N := N) h.rd.fr k2 (by omega)
      have hn1' := k2.n
      have mo : More ⟨s1.h, N + 1⟩ s1 := ⟨by simp only; omega, fun _ _ => rfl, fun _ => k1.fr⟩
      obtain ⟨lv', s2, a1, a2, a3, a4, a5⟩ := push (s0 := ⟨s1.h, N + 1⟩) k1.fr hl1 mo (by_ := 128) f.cs (by simp; omega) (by simp; omega)
      have r2 := k1.app (n0 := N + 1) (by omega) a2 a4
      have e9 : ((bls 14 (List.replicate 1 [(.int .i64 0), (.int .u64 0), (.int .i64 0), (.bool false), (.slice none 0 0), (.int .i64 0), (.int .u64 0), (.int .i64 0), (.int .u64 0), (.int .i64 0), (.int .i64 0), (.int .u64 0), (.int .i64 0), (.int .u64 0)]) [(0, f.v)]).bind fun rows => als s1 14 1 rows) = some (.slice (some ⟨s1.n, 0, some 0⟩) 1 2, s1.new (.row 14 [f.cs] false)) := rfl
      have d1 : ldc s2 (.pointer (some ⟨N, 0, some 1⟩)) = some (.int .i64 (q : Int)) := by rw [ldc_row r2.row]; rfl
      have d2 : ldc s2 (.pointer (some ⟨N, 0, some 2⟩)) = some (.int .i64 er) := by rw [ldc_row r2.row]; rfl
      refine ⟨lv', s2, r2, a5, a2.n, fun x hx => (a2.old x (by simp only; omega)).trans ((k2.keep x (by omega) (by omega)).trans (h.old x hx)), a3, fun he e => ?_, fun he e => ?_⟩
      · have eq0 : eqb [1] false true (.int .i64 er) (.int .i64 0) = some (.bool false) := by rw [neb1, decide_eq_false (by simp [he])]
        rw [iter_succ]
        generalize iter (leapfrogref03x_First.l9 std) e = R
        unfold leapfrogref03x_First.l9
        simp only [std_bd, std_cnd, List.getD_cons_zero, List.getD_cons_succ, hl, lt0, q1, q2, g1, e9, a1, nk, f2, d2, eq0, add0, bds, cnd]
      · have eq0 : eqb [1] false true (.int .i64 er) (.int .i64 0) = some (.bool true) := by rw [neb1, decide_eq_true he]
        rw [iter_succ]
        unfold leapfrogref03x_First.l9
        simp only [std_bd, std_cnd, List.getD_cons_zero, List.getD_cons_succ, hl, lt0, q1, q2, g1, e9, a1, nk, f1, f2, d1, d2, eq0, bds, cnd]
        rfl
    cases hf : fieldP bs k p with
    | bad er q =>
      rw [hf] at hq
      obtain ⟨f, s1, g1, g2, g3, g4⟩ := hq
      obtain ⟨lv', s2, r1, r2, r3, r4, r5, r6, r7⟩ := key f g1 g2 g3
      refine ⟨s2, fun e => ?_, r1.fr, r3, r4⟩
      dsimp only
      rw [show e + (d + 1) + 1 = (e + d + 1) + 1 by omega, r7 g4]
    | ok a q =>
      rw [hf] at hq
      obtain ⟨w, s1, g1, gw, g2, g3⟩ := hq
      obtain ⟨f, hfd⟩ : ∃ f : Fd, f = ({ a.1 with b := w } : Fd) := ⟨_, rfl⟩
      rw [← hfd] at g1
      have hfa := fieldP_a h.rd.ok hf
      obtain ⟨lv', s2, r1, r2, r3, r4, r5, r6, r7⟩ := key f g1 g2 g3
      have h3 : RsAt N n1 s0 bv lv' bs (fs ++ [(f, a.2)]) q s2 := by
        refine ⟨r1, by simpa using r5, fun p hp => ?_, r3, r4⟩
        rcases List.mem_append.1 hp with hp | hp
        · exact ⟨(h.byt p hp).1, (((h.byt p hp).2.rdS (N := N) h.rd.fr g3 (by omega)).stp r2 (by simp))⟩
        · cases List.mem_singleton.1 hp
          refine ⟨?_, ((gw.le hle).stp r2 (by simp) : Ful (N + 1) s2 1 w (br a.2)) |> fun z => by rw [hfd]; exact z⟩
          rw [hfd]
          exact ⟨hfa.n0, hfa.n1, hfa.i0, hfa.i1, hfa.vb, hfa.kn0, hfa.kn1, hfa.d0, hfa.d1, hfa.rn0, hfa.rn1, hfa.rb⟩
      have hclr : (fs ++ [(f, a.2)]).map clr = fs.map clr ++ [a] := by
        rw [List.map_append]
        have : clr (f, a.2) = a := by
          rw [hfd]; unfold clr
          have := fieldP_b hf
          cases a with
          | mk a1 a2 => cases a1; simp only at this ⊢; rw [← this]
        simp [this]
      have ih := rfieldsloop hn hn1 hk hks d (j + 1) (by omega) (by simp [hfs]) h3
      rw [hclr] at ih
      simp only []
      have step : ∀ e, iter (leapfrogref03x_First.l9 std) (e + (d + 1) + 1) [v, rpt N, lv, .int .i64 (j : Int)] s = iter (leapfrogref03x_First.l9 std) (e + d + 1) [v, rpt N, lv', .int .i64 ((j + 1 : Nat) : Int)] s2 := fun e => by
        rw [show e + (d + 1) + 1 = (e + d + 1) + 1 by omega, r6 rfl]
      revert ih
      cases firstL bs (ks.drop (j + 1)) q (fs.map clr ++ [a]) with
      | ok gs q =>
        rintro ⟨s', l', fs', g1, g2⟩
        exact ⟨s', l', fs', fun e => (step e).trans (g1 e), g2⟩
      | bad er q =>
        rintro ⟨s', g1, g2⟩
        exact ⟨s', fun e => (step e).trans (g1 e), g2⟩
theorem rfirst_v {n1 n : Nat} {s : St} {bv kv : Value} {bs ks : List Int} (hf : Fresh s) (hb : Pers n1 s fun s => Byt s bv (br bs)) (hok : okY bs) (hsz : bs.length ≤ 1000000000) (hk : KL n s kv ks) (hks : ks.length ≤ 1000000) (hn : n ≤ s.n) (hn1 : n1 ≤ s.n) :
    FirstIs s (firstP bs ks) (leapfrogref03x_First.v bv kv s) := by
  have kl := rkindloop (a0 := bv) hk hks ks.length 0 (by omega) (BIG - ks.length - 1)
  have hB : BIG - ks.length - 1 + ks.length + 1 = BIG := by unfold BIG; omega
  rw [hB, List.drop_zero] at kl
  have kl : iter (leapfrogref03x_First.l2 std) BIG [bv, kv, .int .i64 0] s = _ := kl
  unfold firstP
  by_cases hkk : ∀ k ∈ ks, isKd k
  · rw [if_pos hkk] at kl ⊢
    have hbx := hb.here.bx
    have B1 : bld [.slice none 0 0, .int .i64 0, .int .i64 0] [(0, 1, bv)] = some (.agg ⟨[bv, .int .i64 0, .int .i64 0]⟩) := by simp only [sy, reduceIte, Nat.reduceAdd, Nat.reduceLeDiff, Nat.reduceLT, Nat.reduceEqDiff, Int.reduceEq, Int.reduceLT, Int.reduceLE, Int.reduceNe, ly, hbx]
    have A1 : alv s (.agg ⟨[bv, .int .i64 0, .int .i64 0]⟩) = some (rpt s.n, s.new (.row 3 [[bv, .int .i64 0, .int .i64 0]] false)) := rfl
    have q1 : (s.new (.row 3 [[bv, .int .i64 0, .int .i64 0]] false)).get s.n = some (.row 3 [[bv, .int .i64 0, .int .i64 0]] false) := get_new_same
    have m1 : More s (s.new (.row 3 [[bv, .int .i64 0, .int .i64 0]] false)) := .new
    have c1 : (s.new (.row 3 [[bv, .int .i64 0, .int .i64 0]] false)).n = s.n + 1 := rfl
    generalize s.new (.row 3 [[bv, .int .i64 0, .int .i64 0]] false) = s1 at *
    have hR : RsAt s.n n1 s bv nilB bs [] 0 s1 := ⟨⟨m1.fresh hf, q1, hb.to fun x hx => m1.old x (by omega), hn1, Nat.zero_le _, hsz, hok⟩, .inl ⟨rfl, rfl⟩, fun p hp => absurd hp List.not_mem_nil, by omega, fun x hx => m1.old x hx⟩
    have hl := rfieldsloop hn hn1 hk hks ks.length 0 (by omega) (rfl : ([] : List FB).length = 0) hR
    rw [List.drop_zero, List.map_nil] at hl
    revert hl
    cases firstL bs ks 0 [] with
    | ok gs p =>
      rintro ⟨s7, lv, fs, g1, g2, g3⟩
      have g := g1 (BIG - ks.length - 1)
      dsimp only at g
      rw [hB] at g
      have g : iter (leapfrogref03x_First.l9 std) BIG [kv, rpt s.n, .slice none 0 0, .int .i64 0] s1 = _ := g
      have nk : nck (rpt s.n) = some (rpt s.n) := rfl
      have f1 : fld 1 (rpt s.n) = some (.pointer (some ⟨s.n, 0, some 1⟩)) := rfl
      have d1 : ldc s7 (.pointer (some ⟨s.n, 0, some 1⟩)) = some (.int .i64 (p : Int)) := by rw [ldc_row g2.rd.row]; rfl
      have F := g2.rd.fr
      refine ⟨lv, s7, fs, ?_, ⟨by have := g2.le; omega, g2.old, fun _ => F⟩, F, ⟨g2.lst.isR.pers F, fun p hp => ⟨(g2.byt p hp).1, (g2.byt p hp).2.byt.pers F⟩⟩, g3, g2.lst.le (by omega), fun p hp => (g2.byt p hp).2.le (by omega)⟩
      unfold leapfrogref03x_First.v leapfrogref03x_First.t
      simp only [std_bd, std_cnd, std_it, kl, bds, if_true, List.getD_cons_zero, List.getD_cons_succ, B1, A1, g, nk, f1, d1]
    | bad e p =>
      rintro ⟨s7, g1, g2, g3, g4⟩
      have g := g1 (BIG - ks.length - 1)
      dsimp only at g
      rw [hB] at g
      have g : iter (leapfrogref03x_First.l9 std) BIG [kv, rpt s.n, .slice none 0 0, .int .i64 0] s1 = _ := g
      refine ⟨nilB, s7, [], ?_, ⟨by omega, g4, fun _ => g2⟩, g2, fl_nil s7, rfl, .inl ⟨rfl, rfl⟩, fun p hp => absurd hp List.not_mem_nil⟩
      unfold leapfrogref03x_First.v leapfrogref03x_First.t
      simp only [std_bd, std_cnd, std_it, kl, bds, if_true, List.getD_cons_zero, List.getD_cons_succ, B1, A1, g]
      rfl
  · rw [if_neg hkk] at kl ⊢
    refine ⟨nilB, s, [], ?_, .refl _, hf, fl_nil s, rfl, .inl ⟨rfl, rfl⟩, fun p hp => absurd hp List.not_mem_nil⟩
    unfold leapfrogref03x_First.v leapfrogref03x_First.t
    simp only [std_bd, std_cnd, std_it, kl, bds, List.getD_cons_zero, List.getD_cons_succ]
    rfl
noncomputable def unpackP (bs ks : List Int) : List FB × Nat × Int :=
  if (firstP bs ks).2.2 ≠ 0 then ([], (firstP bs ks).2) else if (firstP bs ks).2.1 < bs.length then ([], (firstP bs ks).2.1, 33) else ((firstP bs ks).1, 0, 0)
theorem unpack_of {s : St} {bv kv : Value} {bs ks : List Int} (hl : lenL bv = some (.int .i64 (bs.length : Int))) :
    (FirstIs s (firstP bs ks) (pack_First.v bv kv s) → FirstIs s (unpackP bs ks) (pack_Unpack.v bv kv s)) ∧ (FirstIs s (firstP bs ks) (leapfrogref03x_First.v bv kv s) → FirstIs s (unpackP bs ks) (leapfrogref03x_Unpack.v bv kv s)) := by
  unfold unpackP
  generalize firstP bs ks = P
  have k1 : ((P.2.1 : Int) < (bs.length : Int)) = (P.2.1 < bs.length) := propext (by omega)
  constructor <;> rintro ⟨v, s', fs, h1, h2, h3, h4, h5⟩
  · rcases Classical.propComplete (P.2.2 = 0) with c | c
    · rw [if_neg (by simp [c])]
      rcases Classical.propComplete (P.2.1 < bs.length) with c2 | c2
      · rw [if_pos (of_eq_true c2)]
        refine ⟨nilB, s', [], ?_, h2, h3, fl_nil s', rfl, .inl ⟨rfl, rfl⟩, fun p hp => absurd hp List.not_mem_nil⟩
        simp only [pack_Unpack.v, pack_Unpack.t, sy, reduceIte, Nat.reduceAdd, Nat.reduceLeDiff, Nat.reduceLT, Nat.reduceEqDiff, Int.reduceEq, Int.reduceLT, Int.reduceLE, Int.reduceNe, ly, h1, hl, c, k1, c2, nilB]
      · rw [if_neg (of_eq_false c2)]
        refine ⟨v, s', fs, ?_, h2, h3, h4, h5⟩
        simp only [pack_Unpack.v, pack_Unpack.t, sy, reduceIte, Nat.reduceAdd, Nat.reduceLeDiff, Nat.reduceLT, Nat.reduceEqDiff, Int.reduceEq, Int.reduceLT, Int.reduceLE, Int.reduceNe, ly, h1, hl, c, k1, c2]
        rfl
    · rw [if_pos (of_eq_false c)]
      refine ⟨nilB, s', [], ?_, h2, h3, fl_nil s', rfl, .inl ⟨rfl, rfl⟩, fun p hp => absurd hp List.not_mem_nil⟩
      simp only [pack_Unpack.v, pack_Unpack.t, sy, reduceIte, Nat.reduceAdd, Nat.reduceLeDiff, Nat.reduceLT, Nat.reduceEqDiff, Int.reduceEq, Int.reduceLT, Int.reduceLE, Int.reduceNe, ly, h1, c, nilB]
  · rcases Classical.propComplete (P.2.2 = 0) with c | c
    · rw [if_neg (by simp [c])]
      rcases Classical.propComplete (P.2.1 < bs.length) with c2 | c2
      · rw [if_pos (of_eq_true c2)]
        refine ⟨nilB, s', [], ?_, h2, h3, fl_nil s', rfl, .inl ⟨rfl, rfl⟩, fun p hp => absurd hp List.not_mem_nil⟩
        simp only [leapfrogref03x_Unpack.v, leapfrogref03x_Unpack.t, sy, reduceIte, Nat.reduceAdd, Nat.reduceLeDiff, Nat.reduceLT, Nat.reduceEqDiff, Int.reduceEq, Int.reduceLT, Int.reduceLE, Int.reduceNe, ly, h1, hl, c, k1, c2, nilB]
      · rw [if_neg (of_eq_false c2)]
        refine ⟨v, s', fs, ?_, h2, h3, h4, h5⟩
        simp only [leapfrogref03x_Unpack.v, leapfrogref03x_Unpack.t, sy, reduceIte, Nat.reduceAdd, Nat.reduceLeDiff, Nat.reduceLT, Nat.reduceEqDiff, Int.reduceEq, Int.reduceLT, Int.reduceLE, Int.reduceNe, ly, h1, hl, c, k1, c2]
        rfl
    · rw [if_pos (of_eq_false c)]
      refine ⟨nilB, s', [], ?_, h2, h3, fl_nil s', rfl, .inl ⟨rfl, rfl⟩, fun p hp => absurd hp List.not_mem_nil⟩
      simp only [leapfrogref03x_Unpack.v, leapfrogref03x_Unpack.t, sy, reduceIte, Nat.reduceAdd, Nat.reduceLeDiff, Nat.reduceLT, Nat.reduceEqDiff, Int.reduceEq, Int.reduceLT, Int.reduceLE, Int.reduceNe, ly, h1, c, nilB]
theorem clr_same {p q : FB} (h : clr p = clr q) : sameP p.1 q.1 ⟨⟨bts p.2⟩⟩ ⟨⟨bts q.2⟩⟩ := by
  obtain ⟨⟨a1, a2, a3, a4, a5, a6, a7, a8, a9, a10, a11, a12, a13, a14⟩, a⟩ := p
  obtain ⟨⟨b1, b2, b3, b4, b5, b6, b7, b8, b9, b10, b11, b12, b13, b14⟩, b⟩ := q
  simp only [clr, Prod.mk.injEq, Fd.mk.injEq] at h
  unfold sameP
  simp only
  obtain ⟨⟨h1, h2, h3, h4, _, h6, h7, h8, h9, h10, h11, h12, h13, h14⟩, h15⟩ := h
  exact ⟨h1, h2, h3, h4, by rw [h15], ⟨h6, h7⟩, ⟨h8, h9⟩, h10, h11, h12, h13, h14⟩
theorem sameAll_r {n m : Nat} {s : St} {v w : Value} {fs gs : List FB} (h : FL n s v fs) (k : FL m s w gs) (hc : fs.map clr = gs.map clr) (hl : fs.length ≤ 1000000) : leapfrogref03x_SameAll.r v w s = some (.bool true) := by
  have hlen : fs.length = gs.length := by simpa using congrArg List.length hc
  have l1 := h.len
  have l2 := k.len
  have hloop : ∀ (d j : Nat), j + d = fs.length → ∀ e, iter (leapfrogref03x_SameAll.l4 std) (e + d + 1) [v, w, .int .i64 (j : Int)] s = some (0, [], s) := by
    intro d
    induction d with
    | zero =>
      intro j hj e
      have lt1 : bin .lss (.int .i64 (j : Int)) (.int .i64 (fs.length : Int)) = some (.bool false) := by
        rw [bin_lss, decide_eq_false (by omega)]
      rw [iter_succ]
      unfold leapfrogref03x_SameAll.l4
      simp only [std_bd, std_cnd, List.getD_cons_zero, List.getD_cons_succ, l1, lt1, bds, cnd]
    | succ d ih =>
      intro j hj e
      obtain ⟨p, hp⟩ := get_some (l := fs) (j := j) (by omega)
      obtain ⟨q, hq⟩ := get_some (l := gs) (j := j) (by omega)
      have hpq : clr p = clr q := by
        have := congrArg (fun l => l[j]?) hc
        simp only [List.getElem?_map, hp, hq, Option.map_some, Option.some.injEq] at this
        exact this
      obtain ⟨x, x1, x2⟩ := h.at hp
      obtain ⟨y, y1, y2⟩ := k.at hq
      have b1 := (h.mem hp).2.here
      have b2 := (k.mem hq).2.here
      have hs := rsame_r p.1 q.1 s b1.bx b2.bx (byt_b2s b1) (byt_b2s b2)
      rw [@decide_eq_true _ (Classical.propDecidable _) (clr_same hpq)] at hs
      have lt0 : bin .lss (.int .i64 (j : Int)) (.int .i64 (fs.length : Int)) = some (.bool true) := by
        rw [bin_lss, decide_eq_true (by omega)]
      have add0 : bin .add (.int .i64 (j : Int)) (.int .i64 1) = some (.int .i64 ((j + 1 : Nat) : Int)) := by
        rw [bin_add, wrap64 (by omega) (by omega)]; rfl
      have nt : un .not (.bool true) = some (.bool false) := rfl
      have ih := ih (j + 1) (by omega) e
      rw [show e + (d + 1) + 1 = (e + d + 1) + 1 by omega, iter_succ]
      revert ih
      generalize iter (leapfrogref03x_SameAll.l4 std) (e + d + 1) = R
      intro ih
      unfold leapfrogref03x_SameAll.l4
      simp only [std_bd, std_cnd, List.getD_cons_zero, List.getD_cons_succ, l1, lt0, x1, x2, y1, y2, hs, nt, add0, bds, cnd]
      exact ih
  have g := hloop fs.length 0 (by omega) (BIG - fs.length - 1)
  rw [show BIG - fs.length - 1 + fs.length + 1 = BIG by unfold BIG; omega] at g
  have g : iter (leapfrogref03x_SameAll.l4 std) BIG [v, w, .int .i64 0] s = some (0, [], s) := g
  have eq0 : eqb [1] false true (.int .i64 (fs.length : Int)) (.int .i64 (gs.length : Int)) = some (.bool false) := by
    rw [neb1, decide_eq_false (by omega)]
  unfold leapfrogref03x_SameAll.r leapfrogref03x_SameAll.t
  simp only [std_bd, std_cnd, std_it, l1, l2, eq0, g, bds, cnd, if_true]
end Go.Proofs.Ytmbfnpadhlfepaa
