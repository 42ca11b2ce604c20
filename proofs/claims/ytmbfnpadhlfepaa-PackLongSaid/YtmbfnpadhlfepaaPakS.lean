/-
  The fields with which bytes begin: the program's First.
-/
import Derived.Test.YtmbfnpadhlfepaaPakR
set_option linter.unusedSimpArgs false
set_option linter.unusedVariables false
set_option maxRecDepth 100000
set_option maxHeartbeats 4000000
namespace Go.Proofs.Ytmbfnpadhlfepaa
open Go.Sim Go.Sim.Bt
attribute [local congr] bdc cndc itec gdc gdSc gdUc

theorem fieldP_b {bs : List Int} {k : Int} {p q : Nat} {a : FB} (h : fieldP bs k p = .ok a q) : a.1.b = nilB := by
  unfold fieldP at h
  repeat' (split at h)
  all_goals first | (cases h; done) | (cases h; rfl)
/-- A slice of kinds. -/
def kr (ks : List Int) : List (List Value) := ks.map fun k => [.int .i64 k]
def KL (n : Nat) (s : St) (v : Value) (ks : List Int) : Prop := Pers n s fun s => IsR s 1 v (kr ks)
theorem KL.len {n : Nat} {s : St} {v : Value} {ks : List Int} (h : KL n s v ks) : lenL v = some (.int .i64 ks.length) := by
  have := (Pers.here h).len
  simpa [kr] using this
theorem KL.at {n : Nat} {s : St} {v : Value} {ks : List Int} (h : KL n s v ks) {j : Nat} {k : Int} (hj : ks[j]? = some k) : ∃ q, idx s 1 v (.int .i64 (j : Int)) = some q ∧ ldc s q = some (.int .i64 k) := by
  obtain ⟨b, all, ro, h1, h2, h3⟩ := (Pers.here h).at (j := j) (r := [.int .i64 k]) (by simp [kr, hj])
  exact ⟨_, h1, by rw [ldc_row h2, h3]; rfl⟩
theorem is_r (k : Int) (s : St) : pack_is.r (.int .i64 k) s = some (.bool (decide (isKd k))) := by
  have := only_r (fd0 k) rfl s
  simp only [Fd.v, Fd.cs, fd0, nilB] at this
  simp only [pack_is.r, pack_is.t, sy, reduceIte, Nat.reduceAdd, Nat.reduceLeDiff, Nat.reduceLT, Nat.reduceEqDiff, Int.reduceEq, Int.reduceLT, Int.reduceLE, Int.reduceNe, ly, this]
  first | done | rfl | congr

def cpt (b : Nat) : Value := .pointer (some ⟨b, 0, some 0⟩)
open Classical in
/-- The kinds looked at. -/
theorem kindloop {n N : Nat} {s : St} {a0 v : Value} {ks : List Int} (h : KL n s v ks) (hb : ks.length ≤ 1000000) (g0 : s.get N = some (.row 1 [[.slice none 0 0]] false)) (g1 : s.get (N + 1) = some (.row 1 [[.int .i64 0]] false)) (g2 : s.get (N + 2) = some (.row 1 [[.int .i64 0]] false)) : ∀ (d j : Nat), j + d = ks.length →
    if ∀ k ∈ ks.drop j, isKd k then ∀ e, iter (pack_First.l2 std) (e + d + 1) [a0, v, cpt N, cpt (N + 1), cpt (N + 2), v, .int .i64 (ks.length : Int), .int .i64 (j : Int)] s = some (0, [a0, v, cpt N, cpt (N + 1), cpt (N + 2)], s)
    else ∃ s', (∀ e, iter (pack_First.l2 std) (e + d + 1) [a0, v, cpt N, cpt (N + 1), cpt (N + 2), v, .int .i64 (ks.length : Int), .int .i64 (j : Int)] s = some (1, [cpt N, cpt (N + 1), cpt (N + 2)], s')) ∧ s'.n = s.n ∧ (∀ x, x < N → s'.get x = s.get x) ∧ (Fresh s → Fresh s') ∧
      ldc s' (cpt N) = some nilB ∧ ldc s' (cpt (N + 1)) = some (.int .i64 0) ∧ ldc s' (cpt (N + 2)) = some (.int .i64 30)
  | 0, j, hj => by
    have : j = ks.length := by omega
    subst this
    rw [if_pos (by intro p hp; simp at hp)]
    intro e
    have lt1 : bin .lss (.int .i64 (ks.length : Int)) (.int .i64 (ks.length : Int)) = some (.bool false) := by
      rw [bin_lss, decide_eq_false (by omega)]
    rw [iter_succ]
    unfold pack_First.l2
    simp only [std_bd, std_cnd, List.getD_cons_zero, List.getD_cons_succ, lt1, bds, cnd]
  | d + 1, j, hj => by
    have ih := kindloop (a0 := a0) h hb g0 g1 g2 d (j + 1) (by omega)
    obtain ⟨k, hk⟩ := get_some (l := ks) (j := j) (by omega)
    obtain ⟨q, q1, q2⟩ := h.at hk
    have hi := is_r k s
    have lt0 : bin .lss (.int .i64 (j : Int)) (.int .i64 (ks.length : Int)) = some (.bool true) := by
      rw [bin_lss, decide_eq_true (by omega)]
    have add0 : bin .add (.int .i64 (j : Int)) (.int .i64 1) = some (.int .i64 ((j + 1 : Nat) : Int)) := by
      rw [bin_add, wrap64 (by omega) (by omega)]; rfl
    rw [drop_get hk]
    by_cases ok : isKd k
    · rw [decide_eq_true ok] at hi
      have nt : un .not (.bool true) = some (.bool false) := rfl
      have step : ∀ e, iter (pack_First.l2 std) (e + (d + 1) + 1) [a0, v, cpt N, cpt (N + 1), cpt (N + 2), v, .int .i64 (ks.length : Int), .int .i64 (j : Int)] s = iter (pack_First.l2 std) (e + d + 1) [a0, v, cpt N, cpt (N + 1), cpt (N + 2), v, .int .i64 (ks.length : Int), .int .i64 ((j + 1 : Nat) : Int)] s := fun e => by
        rw [show e + (d + 1) + 1 = (e + d + 1) + 1 by omega, iter_succ]
        generalize iter (pack_First.l2 std) (e + d + 1) = R
        unfold pack_First.l2
        simp only [std_bd, std_cnd, List.getD_cons_zero, List.getD_cons_succ, lt0, q1, q2, hi, nt, add0, bds, cnd]
      simp only [List.mem_cons, forall_eq_or_imp, ok, true_and]
      split at ih
      · rename_i hh
        rw [if_pos hh]
        exact fun e => (step e).trans (ih e)
      · rename_i hh
        rw [if_neg hh]
        obtain ⟨s', i1, i2⟩ := ih
        exact ⟨s', fun e => (step e).trans (i1 e), i2⟩
    · rw [decide_eq_false ok] at hi
      have nt : un .not (.bool false) = some (.bool true) := rfl
      rw [if_neg (fun hh => ok (hh k (by simp)))]
      have w1 : stv s 1 (cpt N) (.slice none 0 0) = some (s.put N (.row 1 [[nilB]] false)) := by rw [cpt, stv_row g0]; rfl
      have g1' : (s.put N (.row 1 [[nilB]] false)).get (N + 1) = some (.row 1 [[.int .i64 0]] false) := by rw [get_put_ne (by omega)]; exact g1
      have g2' : (s.put N (.row 1 [[nilB]] false)).get (N + 2) = some (.row 1 [[.int .i64 0]] false) := by rw [get_put_ne (by omega)]; exact g2
      have g0' : (s.put N (.row 1 [[nilB]] false)).get N = some (.row 1 [[nilB]] false) := get_put_same g0
      have f1 : Fresh s → Fresh (s.put N (.row 1 [[nilB]] false)) := fun f => f.put
      have o1 : ∀ x, x < N → (s.put N (.row 1 [[nilB]] false)).get x = s.get x := fun x hx => get_put_ne (by omega)
      have n1' : (s.put N (.row 1 [[nilB]] false)).n = s.n := rfl
      generalize s.put N (.row 1 [[nilB]] false) = s1 at *
      have w2 : stv s1 1 (cpt (N + 1)) (.int .i64 0) = some (s1.put (N + 1) (.row 1 [[.int .i64 0]] false)) := by rw [cpt, stv_row g1']; rfl
      have g2'' : (s1.put (N + 1) (.row 1 [[.int .i64 0]] false)).get (N + 2) = some (.row 1 [[.int .i64 0]] false) := by rw [get_put_ne (by omega)]; exact g2'
      have g1'' : (s1.put (N + 1) (.row 1 [[.int .i64 0]] false)).get (N + 1) = some (.row 1 [[.int .i64 0]] false) := get_put_same g1'
      have g0'' : (s1.put (N + 1) (.row 1 [[.int .i64 0]] false)).get N = some (.row 1 [[nilB]] false) := by rw [get_put_ne (by omega)]; exact g0'
      have f2 : Fresh s1 → Fresh (s1.put (N + 1) (.row 1 [[.int .i64 0]] false)) := fun f => f.put
      have o2 : ∀ x, x < N → (s1.put (N + 1) (.row 1 [[.int .i64 0]] false)).get x = s1.get x := fun x hx => get_put_ne (by omega)
      have n2' : (s1.put (N + 1) (.row 1 [[.int .i64 0]] false)).n = s1.n := rfl
      generalize s1.put (N + 1) (.row 1 [[.int .i64 0]] false) = s2 at *
      have w3 : stv s2 1 (cpt (N + 2)) (.int .i64 30) = some (s2.put (N + 2) (.row 1 [[.int .i64 30]] false)) := by rw [cpt, stv_row g2'']; rfl
      refine ⟨s2.put (N + 2) (.row 1 [[.int .i64 30]] false), fun e => ?_, ?_, fun x hx => ?_, fun f => (f2 (f1 f)).put, ?_, ?_, ?_⟩
      · rw [show e + (d + 1) + 1 = (e + d + 1) + 1 by omega, iter_succ]
        unfold pack_First.l2
        simp only [std_bd, std_cnd, List.getD_cons_zero, List.getD_cons_succ, lt0, q1, q2, hi, nt, w1, w2, w3, bds, cnd]
      · rw [put_n, n2', n1']
      · rw [get_put_ne (by omega), o2 x hx, o1 x hx]
      · rw [cpt, ldc_row (by rw [get_put_ne (by omega)]; exact g0'')]; rfl
      · rw [cpt, ldc_row (by rw [get_put_ne (by omega)]; exact g1'')]; rfl
      · rw [cpt, ldc_row (get_put_same g2'')]; rfl

/-- What the reading of fields has in memory: the list's cell `N`, the two others, the reader `N + 3` and its cell. -/
structure FsAt (N n1 : Nat) (s0 : St) (bv : Value) (bs : List Int) (fs : List FB) (p : Nat) (s : St) : Prop where
  rd : RdAt n1 (N + 3) bv bs p s
  lst : ∃ lv, s.get N = some (.row 1 [[lv]] false) ∧ Ful (N + 5) s 14 lv (fs.map fun p => p.1.cs)
  r1 : s.get (N + 1) = some (.row 1 [[.int .i64 0]] false)
  r2 : s.get (N + 2) = some (.row 1 [[.int .i64 0]] false)
  box : s.get (N + 4) = some (.row 1 [[rpt (N + 3)]] false)
  byt : ∀ p ∈ fs, FdA p.1 ∧ Ful (N + 5) s 1 p.1.b (br p.2)
  le : N + 5 ≤ s.n
  old : ∀ x, x < N → s.get x = s0.get x
theorem Ful.rdS {N n0 sz b : Nat} {s s' : St} {v : Value} {rows : List (List Value)} (h : Ful n0 s sz v rows) (f : Fresh s) (k : RdS b s s') (hb : b < n0) : Ful n0 s' sz v rows := by
  rcases h with h | ⟨c, e, g0, g1, g2, g3⟩
  · exact .inl h
  · exact .inr ⟨c, e, g0, g1, (k.keep c (f.lt g2) (by omega)).trans g2, g3⟩
theorem Ful.putN {n0 sz b : Nat} {s : St} {k : Blk} {v : Value} {rows : List (List Value)} (h : Ful n0 s sz v rows) (hb : b < n0) : Ful n0 (s.put b k) sz v rows := by
  rcases h with h | ⟨c, e, g0, g1, g2, g3⟩
  · exact .inl h
  · exact .inr ⟨c, e, g0, g1, by rw [get_put_ne (by omega)]; exact g2, g3⟩
/-- What the loop that reads answers. -/
def FLIs (N n1 : Nat) (s0 : St) (bv : Value) (bs : List Int) (r : Nat → Option Cut) : RdR (List FB) → Prop
  | .ok gs q => ∃ s' fs, (∀ e, r e = some (0, [cpt N, cpt (N + 1), cpt (N + 2), cpt (N + 4)], s')) ∧ FsAt N n1 s0 bv bs fs q s' ∧ fs.map clr = gs
  | .bad er q => ∃ s' fs, (∀ e, r e = some (1, [pv er, cpt N, cpt (N + 1), cpt (N + 2)], s')) ∧ FsAt N n1 s0 bv bs fs q s'
theorem fieldsloop {N n1 n : Nat} {s0 : St} {bv v : Value} {bs ks : List Int} (hn : n ≤ N) (hn1 : n1 ≤ N) (hk : KL n s0 v ks) (hks : ks.length ≤ 1000000) : ∀ (d j : Nat), j + d = ks.length → ∀ {p : Nat} {fs : List FB} {s : St}, fs.length = j → FsAt N n1 s0 bv bs fs p s →
    FLIs N n1 s0 bv bs (fun e => iter (pack_First.l10 std) (e + d + 1) [cpt N, cpt (N + 1), cpt (N + 2), cpt (N + 4), v, .int .i64 (ks.length : Int), .int .i64 (j : Int)] s) (firstL bs (ks.drop j) p (fs.map clr))
  | 0, j, hj, p, fs, s, hfs, h => by
    have : j = ks.length := by omega
    subst this
    rw [List.drop_length]
    unfold firstL
    refine ⟨s, fs, fun e => ?_, h, rfl⟩
    have lt1 : bin .lss (.int .i64 (ks.length : Int)) (.int .i64 (ks.length : Int)) = some (.bool false) := by
      rw [bin_lss, decide_eq_false (by omega)]
    dsimp only
    rw [iter_succ]
    unfold pack_First.l10
    simp only [std_bd, std_cnd, List.getD_cons_zero, List.getD_cons_succ, lt1, bds, cnd]
  | d + 1, j, hj, p, fs, s, hfs, h => by
    obtain ⟨k, hkj⟩ := get_some (l := ks) (j := j) (by omega)
    obtain ⟨q0, q1, q2⟩ := KL.at (hk.to fun x hx => h.old x (by omega)) hkj
    obtain ⟨lv, l1, l2⟩ := h.lst
    have lt0 : bin .lss (.int .i64 (j : Int)) (.int .i64 (ks.length : Int)) = some (.bool true) := by
      rw [bin_lss, decide_eq_true (by omega)]
    have add0 : bin .add (.int .i64 (j : Int)) (.int .i64 1) = some (.int .i64 ((j + 1 : Nat) : Int)) := by
      rw [bin_add, wrap64 (by omega) (by omega)]; rfl
    have d1 : ldc s (cpt N) = some lv := by rw [cpt, ldc_row l1]; rfl
    have d2 : ldc s (cpt (N + 4)) = some (rpt (N + 3)) := by rw [cpt, ldc_row h.box]; rfl
    have hq := field_q h.rd k
    have hle := h.le
    rw [drop_get hkj]
    unfold firstL
    have keepS : ∀ {s' : St} {q : Nat}, RdAt n1 (N + 3) bv bs q s' → RdS (N + 3) s s' → FsAt N n1 s0 bv bs fs q s' := fun {s' q} r k =>
      ⟨r, ⟨lv, (k.keep N (by omega) (by omega)).trans l1, l2.rdS (N := N) h.rd.fr k (by omega)⟩, (k.keep _ (by omega) (by omega)).trans h.r1, (k.keep _ (by omega) (by omega)).trans h.r2, (k.keep _ (by omega) (by omega)).trans h.box,
        fun p hp => ⟨(h.byt p hp).1, (h.byt p hp).2.rdS (N := N) h.rd.fr k (by omega)⟩, Nat.le_trans hle k.n, fun x hx => (k.keep x (by omega) (by omega)).trans (h.old x hx)⟩
    cases hf : fieldP bs k p with
    | bad er q =>
      rw [hf] at hq
      obtain ⟨s', g1, g2, g3⟩ := hq
      refine ⟨s', fs, fun e => ?_, keepS g2 g3⟩
      dsimp only
      rw [show e + (d + 1) + 1 = (e + d + 1) + 1 by omega, iter_succ]
      unfold pack_First.l10
      simp only [std_bd, std_cnd, List.getD_cons_zero, List.getD_cons_succ, lt0, q1, q2, d1, d2, g1, bds, cnd]
    | ok a q =>
      rw [hf] at hq
      obtain ⟨w, s1, g1, gw, g2, g3⟩ := hq
      have h1 := keepS g2 g3
      have hfa := fieldP_a h.rd.ok hf
      obtain ⟨lv', l1', l2'⟩ := h1.lst
      have : lv' = lv := by
        have e := (g3.keep N (by omega) (by omega)).trans l1
        rw [l1'] at e
        simp only [Option.some.injEq, Blk.row.injEq, List.cons.injEq, and_true, true_and] at e
        exact e
      subst this
      have d1' : ldc s1 (cpt N) = some lv' := by rw [cpt, ldc_row l1']; rfl
      have mo : More ⟨s1.h, N + 5⟩ s1 := ⟨h1.le, fun _ _ => rfl, fun _ => g2.fr⟩
      obtain ⟨f, hfd⟩ : ∃ f : Fd, f = ({ a.1 with b := w } : Fd) := ⟨_, rfl⟩
      rw [← hfd] at g1
      obtain ⟨v', s2, a1, a2, a3, a4, a5⟩ := push (s0 := ⟨s1.h, N + 5⟩) g2.fr l2' mo (by_ := 128) f.cs (by simp; omega) (by simp; omega)
      have gN : s2.get N = some (.row 1 [[lv']] false) := (a2.old N (by simp only; omega)).trans l1'
      have w1 : stv s2 1 (cpt N) v' = some (s2.put N (.row 1 [[v']] false)) := by
        rw [cpt, stv_row gN, a3.isR.bx]; rfl
      have old2 : ∀ x, x < N + 5 → x ≠ N → (s2.put N (.row 1 [[v']] false)).get x = s1.get x := fun x hx hne => by
        rw [get_put_ne hne]; exact a2.old x hx
      have h3 : FsAt N n1 s0 bv bs (fs ++ [(f, a.2)]) q (s2.put N (.row 1 [[v']] false)) := by
        refine ⟨⟨a4.put, (old2 _ (by omega) (by omega)).trans g2.row, g2.byt.to fun x hx => ?_, g2.lt, g2.le, g2.sz, g2.ok⟩, ⟨v', get_put_same gN, ?_⟩, (old2 _ (by omega) (by omega)).trans h1.r1, (old2 _ (by omega) (by omega)).trans h1.r2, (old2 _ (by omega) (by omega)).trans h1.box, fun p hp => ?_, a2.n, fun x hx => (old2 x (by omega) (by omega)).trans (h1.old x hx)⟩
        · exact old2 x (by omega) (by omega)
        · simpa using Ful.putN (k := .row 1 [[v']] false) (b := N) a3 (by simp only; omega)
        · rcases List.mem_append.1 hp with hp | hp
          · exact ⟨(h1.byt p hp).1, ((h1.byt p hp).2.stp a5 (by simp)).putN (by omega)⟩
          · cases List.mem_singleton.1 hp
            refine ⟨?_, (((gw.le hle).stp a5 (by simp)).putN (by omega) : Ful (N + 5) (s2.put N (.row 1 [[v']] false)) 1 w (br a.2)) |> fun z => by rw [hfd]; exact z⟩
            rw [hfd]
            exact ⟨hfa.n0, hfa.n1, hfa.i0, hfa.i1, hfa.vb, hfa.kn0, hfa.kn1, hfa.d0, hfa.d1, hfa.rn0, hfa.rn1, hfa.rb⟩
      have hclr : (fs ++ [(f, a.2)]).map clr = fs.map clr ++ [a] := by
        rw [List.map_append]
        have : clr (f, a.2) = a := by
          rw [hfd]; unfold clr
          have := fieldP_b hf
          cases a with
          | mk a1 a2 => cases a1; simp only at this ⊢; rw [← this]
        simp [this]
      have ih := fieldsloop hn hn1 hk hks d (j + 1) (by omega) (by simp [hfs]) h3
      rw [hclr] at ih
      simp only []
      have sm : sameV lv' lv' = true := l2'.isR.same
      have e9 : ((bls 14 (List.replicate 1 [(.int .i64 0), (.int .u64 0), (.int .i64 0), (.bool false), (.slice none 0 0), (.int .i64 0), (.int .u64 0), (.int .i64 0), (.int .u64 0), (.int .i64 0), (.int .i64 0), (.int .u64 0), (.int .i64 0), (.int .u64 0)]) [(0, f.v)]).bind fun rows => als s1 14 1 rows) = some (.slice (some ⟨s1.n, 0, some 0⟩) 1 2, s1.new (.row 14 [f.cs] false)) := rfl
      have step : ∀ e, iter (pack_First.l10 std) (e + (d + 1) + 1) [cpt N, cpt (N + 1), cpt (N + 2), cpt (N + 4), v, .int .i64 (ks.length : Int), .int .i64 (j : Int)] s = iter (pack_First.l10 std) (e + d + 1) [cpt N, cpt (N + 1), cpt (N + 2), cpt (N + 4), v, .int .i64 (ks.length : Int), .int .i64 ((j + 1 : Nat) : Int)] (s2.put N (.row 1 [[v']] false)) := fun e => by
        rw [show e + (d + 1) + 1 = (e + d + 1) + 1 by omega, iter_succ]
        generalize iter (pack_First.l10 std) (e + d + 1) = R
        unfold pack_First.l10
        simp only [std_bd, std_cnd, List.getD_cons_zero, List.getD_cons_succ, lt0, q1, q2, d1, d2, g1, d1', sm, e9, a1, w1, add0, bds, cnd]
      revert ih
      cases firstL bs (ks.drop (j + 1)) q (fs.map clr ++ [a]) with
      | ok gs q =>
        rintro ⟨s', fs', g1, g2⟩
        exact ⟨s', fs', fun e => (step e).trans (g1 e), g2⟩
      | bad er q =>
        rintro ⟨s', fs', g1, g2⟩
        exact ⟨s', fs', fun e => (step e).trans (g1 e), g2⟩
end Go.Proofs.Ytmbfnpadhlfepaa
