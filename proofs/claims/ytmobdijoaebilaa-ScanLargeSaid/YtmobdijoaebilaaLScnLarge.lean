/-
  ScanLarge, over abstract values.
-/
import Derived.Test.YtmobdijoaebilaaScnD
set_option linter.unusedSimpArgs false
set_option linter.unusedVariables false
set_option maxRecDepth 100000
set_option maxHeartbeats 2000000
namespace Go.Proofs.Ytmobdijoaebilaa
open Go.Sim Go.Sim.Bt
attribute [local congr] bdc cndc itec gdc gdSc gdUc
theorem scn_tail_r (h : Int) (s : St) : leapfrogref12x_Tail.r (.int .i64 h) s = some (.agg ⟨(⟨1, 3, 0, h, 0⟩ : Rf).cs⟩) := by
  simp only [leapfrogref12x_Tail.r, leapfrogref12x_Tail.t, sy, reduceIte, Nat.reduceAdd, Nat.reduceLeDiff, Nat.reduceLT, Nat.reduceEqDiff, Int.reduceEq, Int.reduceLT, Int.reduceLE, Int.reduceNe, ly]
theorem scn_at_r (n : Int) (s : St) : leapfrogref02x_At.r (.int .u64 n) s = some (KV 2 n) := by
  simp only [leapfrogref02x_At.r, leapfrogref02x_At.t, sy, reduceIte, Nat.reduceAdd, Nat.reduceLeDiff, Nat.reduceLT, Nat.reduceEqDiff, Int.reduceEq, Int.reduceLT, Int.reduceLE, Int.reduceNe, ly]
namespace ScanLarge
theorem awake_r (s : St) : leapfroglaw18x_awakeC.r s = some (.bool true) := rfl
def cL : SC := ⟨0, headR 0, 0, 1048576⟩
abbrev tl : Rf := ⟨1, 3, 0, 0, 0⟩
abbrev pr (i : Nat) : Rf := ⟨2 + (i : Int), 2, (i : Int), 0, 0⟩
abbrev aL (r : Rf) : Ans := ⟨1, false, zR, r, nilV⟩
theorem okL : okC (cL.sk 2 0) := ⟨by decide, by decide, .inr ⟨.inl rfl, rfl⟩, ⟨0, 0, rfl, rfl, by decide, by decide⟩, rfl, .inl rfl, by show (2 : Int) ≠ 1; decide⟩
structure Hd (i : Nat) (m : Sc) : Prop where
  h : handS m
  x : m.x = pr i
  l : m.its.length = i
structure Dn (i : Nat) (m : Sc) : Prop where
  ov : m.ov = true
  e : m.e = 0
  l : m.ri.length = i
structure Lg (m : Sc) : Prop where
  ov : m.ov = true
  e : m.e = 102
  l : m.ri = []
theorem tell_hd {i : Nat} {m : Sc} (h : Hd i m) (hi : i < 64) (x : Option Rf) : Hd (i + 1) (tellS cL m (aL (pr (i + 1))) [] x) := by
  obtain ⟨⟨ov, w, sk⟩, hx, hl⟩ := h
  have l1 : lessK m.x.rk m.x.n (pr (i + 1)).rk (pr (i + 1)).n := by rw [hx]; unfold lessK; simp; omega
  have l2 : ¬ lessK 2 cL.high (pr (i + 1)).rk (pr (i + 1)).n := by unfold lessK cL; simp; omega
  have e : tellS cL m (aL (pr (i + 1))) [] x = { m with its := m.its ++ [⟨m.x.n, []⟩], fr := nextR m.x.n, fn := nextN m.x.n, x := pr (i + 1), so := false, hs := false } := by
    have sk' : ¬ (m.hs = true ∧ m.so = false) := sk
    unfold tellS
    rw [if_neg (by rw [ov, w]; simp), if_neg sk']
    unfold gotS
    rw [if_pos rfl]
    unfold hasS
    rw [if_neg (by rintro ⟨_, g⟩; omega), if_pos l1]
    unfold takesS
    rw [if_neg l2]
    simp [has1]
  rw [e]
  exact ⟨⟨ov, w, by simp⟩, rfl, by simp [hl]⟩
theorem tell_dn {i : Nat} {m : Sc} (h : Hd i m) (hi : i < 64) (x : Option Rf) : Dn (i + 1) (tellS cL m (aL tl) [] x) := by
  obtain ⟨⟨ov, w, sk⟩, hx, hl⟩ := h
  have l1 : lessK m.x.rk m.x.n tl.rk tl.n := by rw [hx]; unfold lessK; simp
  have l2 : lessK 2 cL.high tl.rk tl.n := by unfold lessK cL; simp
  have e : tellS cL m (aL tl) [] x = endsS { m with its := m.its ++ [⟨m.x.n, []⟩], fr := nextR m.x.n, fn := nextN m.x.n, x := tl, so := false, hs := false } 0 (m.its ++ [⟨m.x.n, []⟩]) := by
    unfold tellS
    rw [if_neg (by rw [ov, w]; simp), if_neg sk]
    unfold gotS
    rw [if_pos rfl]
    unfold hasS
    rw [if_neg (by rintro ⟨_, g⟩; omega), if_pos l1]
    unfold takesS
    rw [if_pos l2]
    simp [has1]
  rw [e]
  exact ⟨rfl, rfl, by simp [endsS, hl]⟩
theorem tell_lg {m : Sc} (h : Hd 64 m) (r : Rf) (x : Option Rf) : Lg (tellS cL m (aL r) [] x) := by
  obtain ⟨⟨ov, w, sk⟩, hx, hl⟩ := h
  have e : tellS cL m (aL r) [] x = endsS m 102 [] := by
    unfold tellS
    rw [if_neg (by rw [ov, w]; simp), if_neg sk]
    unfold gotS
    rw [if_pos rfl]
    unfold hasS
    rw [if_pos ⟨rfl, by omega⟩]
  rw [e]
  exact ⟨rfl, rfl, rfl⟩
theorem tell_ov {m : Sc} (h : m.ov = true) (a : Ans) (x : Option Rf) : tellS cL m a [] x = m := by unfold tellS; rw [if_pos (.inl h)]
/-- One answer told. -/
theorem one {m : Sc} {s : St} {p N : Nat} {iv : Value} (f : Fresh s) (hN : N ≤ 1000) (hat : AtS cL m s p N iv) (r : Rf) : ∃ s' iv' x, scan_Scan_Tell.v (P p) (.agg ⟨(aL r).cs⟩) s = some (unit', s') ∧ AtS cL (tellS cL m (aL r) [] x) s' p (N + 1) iv' ∧ Fresh s' := by
  obtain ⟨D, x, hch, hD⟩ := chase_ex m.ms.tab m.ms.wl m.ms.wb (cnt m.ms.tab r + 1) (curF m.ms).rk (curF m.ms).n r (by omega)
  have hcn : cnt m.ms.tab r ≤ m.ms.tab.length := List.length_filter_le _ _
  have := hat.inv.tab
  obtain ⟨s', iv', e, h, st⟩ := tell_at f (by show (0 : Int) ≤ 0; decide) hat (aL r) (byt_nil s) (by simp) hch (by unfold BIG; omega)
  exact ⟨s', iv', x, e, h, st.fr f⟩
theorem first {s : St} {p : Nat} (f : Fresh s) (hat : AtS cL (mS cL) s p 0 nilV) (r : Rf) (hr : okK r.rk r.n) (h2 : 2 ≤ r.rk) (hn : 0 ≤ r.n) : ∃ s' iv', scan_Scan_Tell.v (P p) (.agg ⟨(aL r).cs⟩) s = some (unit', s') ∧ AtS cL (takesS cL { mS cL with ms := { m0 (cL.sk 2 0) with ov := true, res := ⟨0, 0, headR 0, r, decide (r.rk = 2) && decide (r.n = 0)⟩ } } r true) s' p 1 iv' ∧ Fresh s' := by
  have l0 : lessK 1 0 r.rk r.n := by unfold lessK; omega
  have l1 : lessK 1 0 2 0 := by unfold lessK; simp
  have l2 : ¬ lessK r.rk r.n 2 0 := by unfold lessK; omega
  have hch : Chase (mS cL).ms.tab (mS cL).ms.wl (mS cL).ms.wb 0 (curF (mS cL).ms).rk (curF (mS cL).ms).n r (some r) := .here hr l0 rfl
  obtain ⟨s', iv', e, h, st⟩ := tell_at f (by show (0 : Int) ≤ 0; decide) hat (aL r) (byt_nil s) (by simp) hch (by unfold BIG; omega)
  have et : tellS cL (mS cL) (aL r) [] (some r) = takesS cL { mS cL with ms := { m0 (cL.sk 2 0) with ov := true, res := ⟨0, 0, headR 0, r, decide (r.rk = 2) && decide (r.n = 0)⟩ } } r true := by
    have e1 : tellF (cL.sk 2 0) (m0 (cL.sk 2 0)) (aL r) (some r) = { m0 (cL.sk 2 0) with ov := true, res := ⟨0, 0, headR 0, r, decide (r.rk = 2) && decide (r.n = 0)⟩ } := by
      simp [tellF, m0, goesF, cL, headR, l1, l2]
    unfold tellS
    rw [if_neg (by simp [mS]), if_pos ⟨rfl, rfl⟩]
    show foundS cL { mS cL with ms := tellF (cL.sk 2 0) (m0 (cL.sk 2 0)) (aL r) (some r) } = _
    rw [e1]
    unfold foundS
    rw [if_neg (by simp), if_neg (by simp)]
  rw [et] at h
  exact ⟨s', iv', e, h, st.fr f⟩
def J (k i : Nat) (m : Sc) : Prop := (Hd (i - 1) m ∧ 1 ≤ i ∧ i ≤ k ∧ i ≤ 65) ∨ (i = k + 1 ∧ k ≤ 64 ∧ Dn k m) ∨ (66 ≤ i ∧ 64 < k ∧ Lg m)
theorem loop {k p : Nat} (hk : k < 80) {s : St} {m : Sc} {iv : Value} {r : Rf} (f : Fresh s) (hat : AtS cL m s p 1 iv) (hj : J k 1 m) (hbig : AllI (fun it => it.val.length ≤ 100000) m) :
    ∃ m' s' N iv', iter (leapfroglaw18x_ScanLarge.l12 std) BIG [P p, .int .i64 (k : Int), .int .i64 ((1 : Nat) : Int), .agg ⟨r.cs⟩] s = some ((0, [P p, .int .i64 (k : Int)], s') : Cut) ∧ AtS cL m' s' p N iv' ∧ Fresh s' ∧ J k (k + 1) m' ∧ AllI (fun it => it.val.length ≤ 100000) m' := by
  refine iter_rel (fun d xs s' => ∃ i m iv r, AtS cL m s' p i iv ∧ Fresh s' ∧ J k i m ∧ AllI (fun it => it.val.length ≤ 100000) m ∧ i + d = k + 1 ∧ xs = [P p, .int .i64 (k : Int), .int .i64 (i : Int), .agg ⟨r.cs⟩])
    (fun y : Option Cut => ∃ m' s' N iv', y = some ((0, [P p, .int .i64 (k : Int)], s') : Cut) ∧ AtS cL m' s' p N iv' ∧ Fresh s' ∧ J k (k + 1) m' ∧ AllI (fun it => it.val.length ≤ 100000) m') ?_ BIG k _ s (by unfold BIG; omega) ⟨1, m, iv, r, hat, f, hj, hbig, by omega, rfl⟩
  rintro d xs s rec ⟨i, m, iv, r, hat, f, hj, hbig, hd, rfl⟩ ih
  cases d with
  | zero =>
    have e1 : ¬ ((i : Int) ≤ k) := by omega
    have : i = k + 1 := by omega
    subst this
    exact ⟨m, s, _, iv, by simp only [leapfroglaw18x_ScanLarge.l12, sy, reduceIte, Nat.reduceAdd, Nat.reduceLeDiff, Nat.reduceLT, Nat.reduceEqDiff, Int.reduceEq, Int.reduceLT, Int.reduceLE, Int.reduceNe, ly, e1], hat, f, hj, hbig⟩
  | succ d =>
    have e1 : (i : Int) ≤ k := by omega
    have e5 : IntKind.i64.wrap ((i : Int) + 1) = ((i + 1 : Nat) : Int) := by rw [wrap64 (by omega) (by omega)]; omega
    have tr := scn_tail_r 0 s
    by_cases hlt : i < k
    · have e2 : (i : Int) < k := by omega
      have e6 : IntKind.i64.wrap (2 + (i : Int)) = 2 + (i : Int) := wrap64 (by omega) (by omega)
      have e7 : IntKind.u64.wrap (i : Int) = (i : Int) := wrapu64 (by omega) (by omega)
      have ar := scn_at_r (i : Int) s
      obtain ⟨s', iv', x, t1, t2, t3⟩ := one f (by omega) hat (pr i)
      have fin : leapfroglaw18x_ScanLarge.l12 std rec [P p, .int .i64 (k : Int), .int .i64 (i : Int), .agg ⟨r.cs⟩] s = rec [P p, .int .i64 (k : Int), .int .i64 ((i + 1 : Nat) : Int), .agg ⟨(pr i).cs⟩] s' := by
        simp only [leapfroglaw18x_ScanLarge.l12, sy, reduceIte, Nat.reduceAdd, Nat.reduceLeDiff, Nat.reduceLT, Nat.reduceEqDiff, Int.reduceEq, Int.reduceLT, Int.reduceLE, Int.reduceNe, ly, e1, tr, e2, e6, e7, ar, t1, e5]
      rw [fin]
      refine ih d _ _ (by omega) ⟨i + 1, _, iv', _, t2, t3, ?_, allI_tell hbig (fun _ _ _ => by simp), by omega, rfl⟩
      rcases hj with ⟨g, g1, g2, g3⟩ | ⟨g, _⟩ | ⟨g1, g2, g3⟩
      · by_cases h64 : i = 65
        · subst h64
          exact .inr (.inr ⟨by omega, by omega, tell_lg g _ _⟩)
        · left
          have := tell_hd g (by omega) x
          rw [show i - 1 + 1 = i by omega] at this
          exact ⟨by rw [show i + 1 - 1 = i by omega]; exact this, by omega, by omega, by omega⟩
      · omega
      · exact .inr (.inr ⟨by omega, g2, by rw [tell_ov g3.ov]; exact g3⟩)
    · have e2 : ¬ ((i : Int) < k) := by omega
      have hik : i = k := by omega
      obtain ⟨s', iv', x, t1, t2, t3⟩ := one f (by omega) hat tl
      have fin : leapfroglaw18x_ScanLarge.l12 std rec [P p, .int .i64 (k : Int), .int .i64 (i : Int), .agg ⟨r.cs⟩] s = rec [P p, .int .i64 (k : Int), .int .i64 ((i + 1 : Nat) : Int), .agg ⟨tl.cs⟩] s' := by
        simp only [leapfroglaw18x_ScanLarge.l12, sy, reduceIte, Nat.reduceAdd, Nat.reduceLeDiff, Nat.reduceLT, Nat.reduceEqDiff, Int.reduceEq, Int.reduceLT, Int.reduceLE, Int.reduceNe, ly, e1, tr, e2, t1, e5]
      rw [fin]
      refine ih d _ _ (by omega) ⟨i + 1, _, iv', _, t2, t3, ?_, allI_tell hbig (fun _ _ _ => by simp), by omega, rfl⟩
      rcases hj with ⟨g, g1, g2, g3⟩ | ⟨g, _⟩ | ⟨g1, g2, g3⟩
      · by_cases h64 : i = 65
        · subst h64
          exact .inr (.inr ⟨by omega, by omega, tell_lg g _ _⟩)
        · right; left
          have := tell_dn g (by omega) x
          rw [show i - 1 + 1 = k by omega] at this
          exact ⟨by omega, by omega, this⟩
      · omega
      · exact .inr (.inr ⟨by omega, g2, by rw [tell_ov g3.ov]; exact g3⟩)
theorem law (s : St) (us : List Value) (ha : AllRo s) (hf : ∀ b, s.n ≤ b → s.get b = none) (h : Args s [(false, [.i .u8])] us) :
    ∃ s', leapfroglaw18x_ScanLarge.w us s = some (.bool true, s') := by
  simp only [Args, Arg, Leaf.Are] at h
  obtain ⟨a0, _, rfl, ⟨_, _, g0, h0, rfl⟩, rfl⟩ := h
  cases g0
  unfold Leaf.Is at h0
  obtain ⟨x0, rfl, w0⟩ := h0
  have w0 := wf_u8 w0
  have hf : Fresh s := hf
  obtain ⟨k, e0, hk⟩ : ∃ k : Nat, x0.tmod 80 = (k : Int) ∧ k < 80 := by
    refine ⟨(x0.tmod 80).toNat, ?_, ?_⟩
    · have := Int.tmod_nonneg (80 : Int) w0.1; omega
    · have := Int.tmod_nonneg (80 : Int) w0.1
      have := Int.tmod_lt_of_pos x0 (show (0 : Int) < 80 by decide)
      omega
  have ec0 : IntKind.i64.wrap x0 = x0 := wrap64 (by omega) (by omega)
  have e8n : (80 : Int) ≠ 0 := by decide
  have hd := rhead_r 0 s
  rcases new_at hf cL (by show (0 : Int) ≤ 0; decide) with ⟨g, _⟩ | ⟨_, s1, q1, hat, m1⟩
  · exact absurd okL g
  have f1 := m1.fresh hf
  rw [show newS cL = mS cL from rfl] at hat
  have tr := scn_tail_r 0 s1
  have ar := scn_at_r 0 s1
  simp only [headR] at hd
  simp only [cL, headR] at q1
  show ∃ s', leapfroglaw18x_ScanLarge.v (.int .u8 x0) s = some (.bool true, s')
  -- the rest
  have rest : ∀ {s2 : St} {iv2 : Value} {m2 : Sc} {r : Rf}, Fresh s2 → AtS cL m2 s2 s.n 1 iv2 → J k 1 m2 → AllI (fun it => it.val.length ≤ 100000) m2 → ∃ (s3 : St) (w : Value) (m3 : Sc) (s4 : St), iter (leapfroglaw18x_ScanLarge.l12 std) BIG [P s.n, .int .i64 (k : Int), .int .i64 1, .agg ⟨r.cs⟩] s2 = some ((0, [P s.n, .int .i64 (k : Int)], s3) : Cut) ∧
      scan_Scan_Next.v (P s.n) s3 = some (.agg ⟨stepI m3.e w⟩, s4) ∧ lenL w = some (.int .i64 m3.ri.length) ∧ ((k ≤ 64 ∧ m3.e = 0 ∧ m3.ri.length = k) ∨ (64 < k ∧ m3.e = 102 ∧ m3.ri.length = 0)) := by
    intro s2 iv2 m2 r f2 h2 j2 big2
    obtain ⟨m3, s3, N, iv3, e3, h3, f3, j3, big3⟩ := loop hk f2 h2 j2 big2 (r := r)
    have hb3 : m3.ov = true ∧ ((k ≤ 64 ∧ m3.e = 0 ∧ m3.ri.length = k) ∨ (64 < k ∧ m3.e = 102 ∧ m3.ri.length = 0)) := by
      rcases j3 with ⟨_, _, g, _⟩ | ⟨_, g1, g2⟩ | ⟨_, g1, g2⟩
      · omega
      · exact ⟨g2.ov, .inl ⟨g1, g2.e, g2.l⟩⟩
      · exact ⟨g2.ov, .inr ⟨g1, g2.e, by rw [g2.l]; rfl⟩⟩
    obtain ⟨s4, w, e4, _, _, hr⟩ := next_at f3 h3 (fun it hi => by have := big3.2 it hi; omega)
    obtain ⟨rows, hR, hI⟩ := hr hb3.1
    rw [nextS_ov hb3.1] at e4
    exact ⟨s3, w, m3, s4, e3, e4, by rw [hR.len, hI.1], hb3.2⟩
  have bigM : ∀ ms : Mm, AllI (fun it => it.val.length ≤ 100000) { mS cL with ms := ms } := fun _ => ⟨by simp [mS], by simp [mS]⟩
  -- behind the first answer
  have fin : ∀ (r : Rf), okK r.rk r.n → 2 ≤ r.rk → 0 ≤ r.n → J k 1 (takesS cL { mS cL with ms := { m0 (cL.sk 2 0) with ov := true, res := ⟨0, 0, headR 0, r, decide (r.rk = 2) && decide (r.n = 0)⟩ } } r true) → ∃ (s2 s3 : St) (w : Value) (e : Int) (len : Nat) (s4 : St), scan_Scan_Tell.v (P s.n) (.agg ⟨(aL r).cs⟩) s1 = some (unit', s2) ∧ iter (leapfroglaw18x_ScanLarge.l12 std) BIG [P s.n, .int .i64 (k : Int), .int .i64 1, .agg ⟨r.cs⟩] s2 = some ((0, [P s.n, .int .i64 (k : Int)], s3) : Cut) ∧
      scan_Scan_Next.v (P s.n) s3 = some (.agg ⟨stepI e w⟩, s4) ∧ lenL w = some (.int .i64 len) ∧ bx w = some [w] ∧ ((((64 : Int) < (k : Int)) = False ∧ (e = 0) = True ∧ ((len : Int) = (k : Int)) = True) ∨ (((64 : Int) < (k : Int)) = True ∧ (e = 102) = True ∧ ((len : Int) = 0) = True)) := by
    intro r h1 h2 h3 hj
    obtain ⟨s2, iv2, t1, t2, t3⟩ := first f1 hat r h1 h2 h3
    obtain ⟨s3, w, m3, s4, e3, e4, e5, e6⟩ := rest t3 t2 hj (allI_takes (bigM _) _ _) (r := r)
    have hbx : bx w = some [w] := by cases w <;> simp_all [lenL] <;> rfl
    refine ⟨s2, s3, w, m3.e, m3.ri.length, s4, t1, e3, e4, e5, hbx, ?_⟩
    rcases e6 with ⟨g1, g2, g3⟩ | ⟨g1, g2, g3⟩
    · exact .inl ⟨eq_false (by omega), eq_true g2, eq_true (by omega)⟩
    · exact .inr ⟨eq_true (by omega), eq_true g2, eq_true (by omega)⟩
  have tk : ∀ r : Rf, ¬ lessK 2 cL.high r.rk r.n → takesS cL { mS cL with ms := { m0 (cL.sk 2 0) with ov := true, res := ⟨0, 0, headR 0, r, decide (r.rk = 2) && decide (r.n = 0)⟩ } } r true = { mS cL with ms := { m0 (cL.sk 2 0) with ov := true, res := ⟨0, 0, headR 0, r, decide (r.rk = 2) && decide (r.n = 0)⟩ }, x := r, so := true } := by
    intro r hr
    unfold takesS
    rw [if_neg hr]
    rfl
  by_cases hk0 : k = 0
  · have c0 : ¬ ((0 : Int) < (k : Int)) := by omega
    obtain ⟨s2, s3, w, e, len, s4, t1, e3, e4, e5, e7, e6⟩ := fin tl (.inr ⟨.inr rfl, rfl⟩) (by decide) (by decide) (.inr (.inl ⟨by omega, by omega, by
      unfold takesS
      rw [if_pos (by unfold lessK cL; simp)]
      exact ⟨rfl, rfl, by rw [hk0]; rfl⟩⟩))
    refine ⟨s4, ?_⟩
    rcases e6 with ⟨g1, g2, g3⟩ | ⟨g1, g2, g3⟩ <;>
      simp only [leapfroglaw18x_ScanLarge.v, leapfroglaw18x_ScanLarge.t, leapfroglaw18x_ScanLarge.t.p2, leapfroglaw18x_ScanLarge.t.p1, sy, reduceIte, Nat.reduceAdd, Nat.reduceLeDiff, Nat.reduceLT, Nat.reduceEqDiff, Int.reduceEq, Int.reduceLT, Int.reduceLE, Int.reduceNe, ly, awake_r, hd, q1, ec0, bin_rem e8n, e0, tr, c0, t1, e3, e4, e5, e7, g1, g2, g3]
  · have c0 : (0 : Int) < (k : Int) := by omega
    obtain ⟨s2, s3, w, e, len, s4, t1, e3, e4, e5, e7, e6⟩ := fin ⟨2, 2, 0, 0, 0⟩ (.inl rfl) (by decide) (by decide) (.inl ⟨by
      rw [tk _ (by unfold lessK cL; simp)]
      exact ⟨⟨rfl, rfl, by simp [mS]⟩, rfl, rfl⟩, by omega, by omega, by omega⟩)
    refine ⟨s4, ?_⟩
    rcases e6 with ⟨g1, g2, g3⟩ | ⟨g1, g2, g3⟩ <;>
      simp only [leapfroglaw18x_ScanLarge.v, leapfroglaw18x_ScanLarge.t, leapfroglaw18x_ScanLarge.t.p2, leapfroglaw18x_ScanLarge.t.p1, sy, reduceIte, Nat.reduceAdd, Nat.reduceLeDiff, Nat.reduceLT, Nat.reduceEqDiff, Int.reduceEq, Int.reduceLT, Int.reduceLE, Int.reduceNe, ly, awake_r, hd, q1, ec0, bin_rem e8n, e0, tr, ar, c0, t1, e3, e4, e5, e7, g1, g2, g3]
end ScanLarge
end Go.Proofs.Ytmobdijoaebilaa
