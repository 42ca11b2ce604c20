/-
  ScanRises, over abstract values, where what is read is small.
-/
import Derived.Test.YtmobdijoaebilaaScnE
import Derived.Test.YtmobdijoaebilaaSmB
set_option linter.unusedSimpArgs false
set_option linter.unusedVariables false
set_option maxRecDepth 100000
set_option maxHeartbeats 2000000
namespace Go.Proofs.Ytmobdijoaebilaa
open Go.Sim Go.Sim.Bt
attribute [local congr] bdc cndc itec gdc gdSc gdUc
theorem AtS.toK {c : SC} {m : Sc} {s s' : St} {p N : Nat} {iv iv' : Value} (h : AtS c m s p N iv) (k : StS iv iv' s s') : StpK [2, 37, 40, 1000] s s' := by
  obtain ⟨b, q, sp, riv, rows, rrows, _, _, _, _, hF, _⟩ := h.ex
  exact hF.toK k
/-- A slice of somebody else's grows. -/
theorem AtS.sepI {c : SC} {m : Sc} {s s' : St} {p N : Nat} {iv tv tv' : Value} {trows : List (List Value)} {n0 : Nat} (h : AtS c m s p N iv) (ov : m.ov = false) (hT : Ful n0 s 2 tv trows) (k : StpI [] tv tv' s s') (hs : ∀ x, own tv x → ¬ own iv x) : AtS c m s' p N iv := by
  obtain ⟨b, q, sp, riv, rows, rrows, g1, g2, g3, g4, g5, g6, g7, g8, g9⟩ := h.ex
  have k2 : StpK [2] s s' := hT.toK k
  have hr := g9 ov
  subst hr
  refine ⟨⟨b, q, sp, nilV, rows, rrows, k2.row g1 (by simp), g2, g3, g4.stp k2 (by simp) (by simp), g5.sep k (by simp) (fun x hx ht => hs x ht hx), g6.stp k2 (by simp), ?_, g8.stp k2 (by simp), g9⟩, h.inv⟩
  rcases g7 with g | ⟨_, _, _, _, e, _⟩
  · exact .inl g
  · cases e
theorem AtS.has {c : SC} {m : Sc} {s : St} {p N : Nat} {iv : Value} (h : AtS c m s p N iv) : ∀ x, own iv x → ∃ k, s.get x = some k := by
  obtain ⟨b, q, sp, riv, rows, rrows, _, _, _, _, hF, _⟩ := h.ex
  exact hF.has
/-- An answer's place on the right, as a number. -/
theorem ans_rn {s : St} {r : List Value} (h : Leaf.Are s [.i .i64, .b, .i .i64, .i .i64, .i .u64, .i .i64, .i .u64, .i .i64, .i .i64, .i .u64, .i .i64, .i .u64, .sl [.i .u8]] r) : inN (ansOf r).r.n := by
  unfold Leaf.Are Leaf.Are Leaf.Are Leaf.Are Leaf.Are Leaf.Are Leaf.Are Leaf.Are Leaf.Are Leaf.Are Leaf.Are Leaf.Are Leaf.Are Leaf.Are at h
  obtain ⟨_, _, rfl, q1, _, _, rfl, q2, _, _, rfl, q3, _, _, rfl, q4, _, _, rfl, q5, _, _, rfl, q6, _, _, rfl, q7, _, _, rfl, q8, _, _, rfl, q9, _, _, rfl, q10, _, _, rfl, q11, _, _, rfl, q12, v, _, rfl, q13, rfl⟩ := h
  unfold Leaf.Is at q1 q2 q3 q4 q5 q6 q7 q8 q9 q10 q11 q12
  obtain ⟨_, rfl, _⟩ := q1
  obtain ⟨_, rfl⟩ := q2
  obtain ⟨_, rfl, _⟩ := q3
  obtain ⟨_, rfl, _⟩ := q4
  obtain ⟨_, rfl, _⟩ := q5
  obtain ⟨_, rfl, _⟩ := q6
  obtain ⟨_, rfl, _⟩ := q7
  obtain ⟨_, rfl, _⟩ := q8
  obtain ⟨_, rfl, _⟩ := q9
  obtain ⟨n, rfl, hn⟩ := q10
  obtain ⟨_, rfl, _⟩ := q11
  obtain ⟨_, rfl, _⟩ := q12
  exact wf_u64 hn
namespace ScanRises
theorem awake_r (s : St) : leapfroglaw18x_awakeC.r s = some (.bool true) := rfl
structure Here (c : SC) (v : Value) (l : List Ans) (p N : Nat) (s : St) (tv : Value) (told : List It) (m : Sc) : Prop where
  ex : ∃ iv trows, AtS c m s p N iv ∧ Ful 0 s 2 tv trows ∧ ItR s trows told ∧ (∀ x, own tv x → ¬ own iv x)
  rz : Rz c m
  all : AllI (fun it => it ∈ told) m
  big : AllI (fun it => it.val.length ≤ 10000000) m
  tl : told.length ≤ N
  cap : N ≤ 400
  ho : IsA s v l
  vals : ∀ (j : Nat) (a : Ans), l[j]? = some a → ValS s a.v ∧ inN a.r.n
  fr : Fresh s
/-- Told, and woken. -/
theorem told_wake {c : SC} {v : Value} {l : List Ans} {p N : Nat} {s : St} {tv : Value} {told : List It} {m : Sc} (hb : 0 ≤ c.st.bt) (hN : N ≤ 400) {iv : Value} {trows : List (List Value)} (hat : AtS c m s p N iv) (hT : Ful 0 s 2 tv trows) (hI : ItR s trows told) (sep : ∀ x, own tv x → ¬ own iv x)
    (rz : Rz c m) (all : AllI (fun it => it ∈ told) m) (big : AllI (fun it => it.val.length ≤ 10000000) m) (tl : told.length ≤ N + 1) (cap : N + 1 ≤ 400) (ho : IsA s v l) (vals : ∀ (j : Nat) (a : Ans), l[j]? = some a → ValS s a.v ∧ inN a.r.n) (f : Fresh s) (a : Ans) {al : List (List Value)} (hB : Byt s a.v al) (hal : al.length ≤ 10000000) (han : inN a.r.n)
    (hin : handS m → a.k = 1 → a.f = false → (⟨m.x.n, al⟩ : It) ∈ told) :
    ∃ s1 s2 m', scan_Scan_Tell.v (P p) (.agg ⟨a.cs⟩) s = some (unit', s1) ∧ scan_Scan_Wake.v (P p) s1 = some (unit', s2) ∧ Here c v l p (N + 1) s2 tv told m' := by
  obtain ⟨D, x, hch, hD⟩ := chase_ex m.ms.tab m.ms.wl m.ms.wb (cnt m.ms.tab a.r + 1) (curF m.ms).rk (curF m.ms).n a.r (by omega)
  have hcn : cnt m.ms.tab a.r ≤ m.ms.tab.length := List.length_filter_le _ _
  have := hat.inv.tab
  obtain ⟨s1, iv1, e1, h1, st1⟩ := tell_at f hb hat a hB hal hch (by unfold BIG; omega)
  have f1 := st1.fr f
  obtain ⟨s2, e2, h2, st2⟩ := wake_at f1 hb h1
  have f2 := st2.fr f1
  have k1 := hat.toK st1
  have k2 := h1.toK st2
  have T1 := hT.sep st1 (by simp) sep
  have sep1 := sep_stp f hT.has st1 sep
  have T2 := T1.sep st2 (by simp) sep1
  have sep2 := sep_stp f1 T1.has st2 sep1
  exact ⟨s1, s2, _, e1, e2, ⟨⟨iv1, trows, h2, T2, (hI.stp k1 (by simp)).stp k2 (by simp), sep2⟩, rz_wake (rz_tell rz hat.inv han al hch), allI_wake (allI_tell all hin), allI_wake (allI_tell big fun _ _ _ => hal), tl, cap, (ho.stp k1 (by simp)).stp k2 (by simp), fun j a hj => ⟨valS_stp (valS_stp (vals j a hj).1 k1 (by simp)) k2 (by simp), (vals j a hj).2⟩, f2⟩⟩
abbrev XS (c : SC) (v : Value) (p : Nat) (tv : Value) (j : Nat) : List Value := [v, P p, tv, .int .i64 (j : Int), .agg ⟨c.cs⟩]
theorem step {c : SC} {v : Value} {l : List Ans} {p j : Nat} {s : St} {tv : Value} {told : List It} {m : Sc} (hb : 0 ≤ c.st.bt) (h : Here c v l p j s tv told m) (hj : j < 400) {a : Ans} (ha : l[j]? = some a) (rec : List Value → St → Option Cut) :
    ∃ s' tv' told' m', leapfroglaw18x_ScanRises.l8 std rec (XS c v p tv j) s = rec (XS c v p tv' (j + 1)) s' ∧ Here c v l p (j + 1) s' tv' told' m' := by
  obtain ⟨iv, trows, hat, hT, hI, sep⟩ := h.ex
  have hjl : j < l.length := (List.getElem?_eq_some_iff.1 ha).1
  have e1 : (j : Int) < l.length := by omega
  have e2 : (j : Int) < 400 := by omega
  have e5 : IntKind.i64.wrap ((j : Int) + 1) = ((j + 1 : Nat) : Int) := by rw [wrap64 (by omega) (by omega)]; omega
  have hlen := h.ho.len
  obtain ⟨s1, w, n1, m1, f1, nr⟩ := next_at h.fr hat (fun it hi => by have := h.big.2 it hi; omega)
  have k1 : StpK [] s s1 := .more m1 h.fr
  have hat1 := hat.stp k1 (by simp) (by simp) (by simp) (by simp) (by simp)
  have hT1 := hT.stp k1 (by simp)
  have hI1 := hI.stp k1 (by simp)
  have ho1 := h.ho.stp k1 (by simp)
  have vals1 : ∀ (j : Nat) (a : Ans), l[j]? = some a → ValS s1 a.v ∧ inN a.r.n := fun j a hj => ⟨valS_stp (h.vals j a hj).1 k1 (by simp), (h.vals j a hj).2⟩
  obtain ⟨b1, i1, rows1, ro1, a1, a2, a3⟩ := ho1.at ha
  obtain ⟨hval, han⟩ := vals1 j a ha
  obtain ⟨al, hB⟩ := byt_val hval.is
  have hal : al.length ≤ 10000000 := by have := hval.len hB; unfold smallM at this; omega
  have bxa := hB.bx
  -- where nothing is told
  have no : (handS m → a.k = 1 → a.f = false → False) → ∃ s2 s3 m', scan_Scan_Tell.v (P p) (.agg ⟨a.cs⟩) s1 = some (unit', s2) ∧ scan_Scan_Wake.v (P p) s2 = some (unit', s3) ∧ Here c v l p (j + 1) s3 tv told m' :=
    fun g => told_wake hb (by omega) hat1 hT1 hI1 sep h.rz h.all h.big (by have := h.tl; omega) (by omega) ho1 vals1 f1 a hB hal han (fun q1 q2 q3 => (g q1 q2 q3).elim)
  by_cases hh : handS m
  · rw [nextS_hd hh] at n1
    rcases Classical.propComplete (a.k = 1) with k1' | k1'
    · cases hf : a.f with
      | true =>
        obtain ⟨s2, s3, m', t1, t2, t3⟩ := no (fun _ _ g => by rw [hf] at g; cases g)
        refine ⟨s3, tv, told, m', ?_, t3⟩
        simp only [Ans.cs, hf] at t1
        simp only [leapfroglaw18x_ScanRises.l8, leapfroglaw18x_ScanRises.l8.p2, leapfroglaw18x_ScanRises.l8.p1, sy, reduceIte, Nat.reduceAdd, Nat.reduceLeDiff, Nat.reduceLT, Nat.reduceEqDiff, Int.reduceEq, Int.reduceLT, Int.reduceLE, Int.reduceNe, ly, hlen, e1, e2, n1, a1, ldc_row a2, lda_row a2, a3, k1', hf, t1, t2, e5]
      | false =>
        have trl : trows.length = told.length := hI.1
        obtain ⟨tv', s2, p1, p2, p3, p4, p5⟩ := pushI f1 hT1 (Nat.zero_le _) (by_ := 32) [.int .u64 m.x.n, a.v] (by have := h.tl; omega) (by have := h.tl; omega)
        have k2 : StpK [2] s1 s2 := hT1.toK p4
        have hat2 := hat1.sepI hh.1 hT1 p4 sep
        have hI2 : ItR s2 (trows ++ [[.int .u64 m.x.n, a.v]]) (told ++ [⟨m.x.n, al⟩]) := (hI1.stp k2 (by simp)).push (it := ⟨m.x.n, al⟩) (hB.stp k2 (by simp))
        have sep2 : ∀ x, own tv' x → ¬ own iv x := fun x hx hi => by
          obtain ⟨y, hy⟩ := hat1.has x hi
          have := f1.lt hy
          have := p5 x hx
          omega
        have mono : ∀ it, it ∈ told → it ∈ told ++ [(⟨m.x.n, al⟩ : It)] := fun it hi => List.mem_append.2 (.inl hi)
        obtain ⟨s3, s4, m', t1, t2, t3⟩ := told_wake (m := m) hb (by omega) hat2 p2 hI2 sep2 h.rz ⟨fun it hi => mono it (h.all.1 it hi), fun it hi => mono it (h.all.2 it hi)⟩ h.big (by simp; exact h.tl) (by omega) (ho1.stp k2 (by simp)) (fun j a hj => ⟨valS_stp (vals1 j a hj).1 k2 (by simp), (vals1 j a hj).2⟩) p3 a (hB.stp k2 (by simp)) hal han (fun _ _ _ => by simp)
        obtain ⟨b2, i2, rows2, ro2, c1, c2, c3⟩ := (ho1.stp k2 (by simp)).at ha
        have hsame : b2 = b1 ∧ i2 = i1 := by
          rcases ho1 with ⟨h0, h1⟩ | ⟨o, i, e, rws, ro, h0, hg, hr⟩
          · rw [h1] at ha; simp at ha
          · subst h0
            have y1 := idx_row (k := .i64) (i := i) (n := (j : Int)) (len := l.length) (e := e) hg (by omega) (by omega)
            have y2 := idx_row (k := .i64) (i := i) (n := (j : Int)) (len := l.length) (e := e) (k2.row hg (by simp)) (by omega) (by omega)
            rw [y1] at a1
            rw [y2] at c1
            simp only [Option.some.injEq, Value.pointer.injEq, Addr.mk.injEq] at a1 c1
            exact ⟨c1.1.symm.trans a1.1, c1.2.1.symm.trans a1.2.1⟩
        obtain ⟨rfl, rfl⟩ := hsame
        have sma := hB.same
        refine ⟨s4, tv', _, m', ?_, t3⟩
        simp only [Ans.cs, hf] at t1
        simp only [leapfroglaw18x_ScanRises.l8, leapfroglaw18x_ScanRises.l8.p2, leapfroglaw18x_ScanRises.l8.p1, sy, reduceIte, Nat.reduceAdd, Nat.reduceLeDiff, Nat.reduceLT, Nat.reduceEqDiff, Int.reduceEq, Int.reduceLT, Int.reduceLE, Int.reduceNe, ly, hlen, e1, e2, n1, a1, ldc_row a2, lda_row a2, a3, k1', hf, bxa, als_eq, Nat.reduceMul, p1, c1, ldc_row c2, lda_row c2, c3, samePj, sma, t1, t2, e5]
    · obtain ⟨s2, s3, m', t1, t2, t3⟩ := no (fun _ g _ => by rw [g] at k1'; simp at k1')
      refine ⟨s3, tv, told, m', ?_, t3⟩
      simp only [leapfroglaw18x_ScanRises.l8, leapfroglaw18x_ScanRises.l8.p2, leapfroglaw18x_ScanRises.l8.p1, sy, reduceIte, Nat.reduceAdd, Nat.reduceLeDiff, Nat.reduceLT, Nat.reduceEqDiff, Int.reduceEq, Int.reduceLT, Int.reduceLE, Int.reduceNe, ly, hlen, e1, e2, n1, a1, ldc_row a2, lda_row a2, a3, k1', t1, t2, e5]
  · obtain ⟨s2, s3, m', t1, t2, t3⟩ := no (fun g => absurd g hh)
    refine ⟨s3, tv, told, m', ?_, t3⟩
    rcases Bool.eq_false_or_eq_true m.ov with ov | ov
    · rw [nextS_ov ov] at n1
      simp only [leapfroglaw18x_ScanRises.l8, leapfroglaw18x_ScanRises.l8.p2, leapfroglaw18x_ScanRises.l8.p1, sy, reduceIte, Nat.reduceAdd, Nat.reduceLeDiff, Nat.reduceLT, Nat.reduceEqDiff, Int.reduceEq, Int.reduceLT, Int.reduceLE, Int.reduceNe, ly, hlen, e1, e2, n1, a1, ldc_row a2, lda_row a2, a3, t1, t2, e5]
    · rcases Bool.eq_false_or_eq_true m.w with w' | w'
      · rw [nextS_w ov w'] at n1
        simp only [leapfroglaw18x_ScanRises.l8, leapfroglaw18x_ScanRises.l8.p2, leapfroglaw18x_ScanRises.l8.p1, sy, reduceIte, Nat.reduceAdd, Nat.reduceLeDiff, Nat.reduceLT, Nat.reduceEqDiff, Int.reduceEq, Int.reduceLT, Int.reduceLE, Int.reduceNe, ly, hlen, e1, e2, n1, a1, ldc_row a2, lda_row a2, a3, t1, t2, e5]
      · have hsk : m.hs = true ∧ m.so = false := by
          apply Classical.byContradiction
          intro g
          exact hh ⟨ov, w', g⟩
        rw [nextS_sk ov w' hsk] at n1
        unfold nextC at n1
        split at n1
        · simp only [leapfroglaw18x_ScanRises.l8, leapfroglaw18x_ScanRises.l8.p2, leapfroglaw18x_ScanRises.l8.p1, sy, reduceIte, Nat.reduceAdd, Nat.reduceLeDiff, Nat.reduceLT, Nat.reduceEqDiff, Int.reduceEq, Int.reduceLT, Int.reduceLE, Int.reduceNe, ly, hlen, e1, e2, n1, a1, ldc_row a2, lda_row a2, a3, t1, t2, e5]
        · simp only [leapfroglaw18x_ScanRises.l8, leapfroglaw18x_ScanRises.l8.p2, leapfroglaw18x_ScanRises.l8.p1, sy, reduceIte, Nat.reduceAdd, Nat.reduceLeDiff, Nat.reduceLT, Nat.reduceEqDiff, Int.reduceEq, Int.reduceLT, Int.reduceLE, Int.reduceNe, ly, hlen, e1, e2, n1, a1, ldc_row a2, lda_row a2, a3, t1, t2, e5]
theorem loop {c : SC} {v : Value} {l : List Ans} {p : Nat} {s : St} {m : Sc} (hb : 0 ≤ c.st.bt) (h : Here c v l p 0 s nilV [] m) :
    ∃ N tv told m' s', iter (leapfroglaw18x_ScanRises.l8 std) BIG (XS c v p nilV 0) s = some ((0, [P p, tv, .agg ⟨c.cs⟩], s') : Cut) ∧ Here c v l p N s' tv told m' := by
  refine iter_rel (fun k xs s' => ∃ m tv told j, Here c v l p j s' tv told m ∧ j + k = 400 ∧ xs = XS c v p tv j)
    (fun y : Option Cut => ∃ N tv told m' s', y = some ((0, [P p, tv, .agg ⟨c.cs⟩], s') : Cut) ∧ Here c v l p N s' tv told m') ?_ BIG 400 _ s (by unfold BIG; omega) ⟨m, nilV, [], 0, h, by omega, rfl⟩
  rintro k xs s rec ⟨m, tv, told, j, h, hj, rfl⟩ ih
  by_cases h1 : j < l.length
  · have e1 : (j : Int) < l.length := by omega
    cases k with
    | zero =>
      have e2 : ¬ ((j : Int) < 400) := by omega
      exact ⟨j, tv, told, m, s, by simp only [leapfroglaw18x_ScanRises.l8, sy, reduceIte, Nat.reduceAdd, Nat.reduceLeDiff, Nat.reduceLT, Nat.reduceEqDiff, Int.reduceEq, Int.reduceLT, Int.reduceLE, Int.reduceNe, ly, h.ho.len, e1, e2], h⟩
    | succ k =>
      obtain ⟨a, ha⟩ := get_some h1
      obtain ⟨s', tv', told', m', g1, g2⟩ := step hb h (by omega) ha rec
      rw [g1]
      exact ih k _ _ (by omega) ⟨m', tv', told', j + 1, g2, by omega, rfl⟩
  · have e1 : ¬ ((j : Int) < l.length) := by omega
    exact ⟨j, tv, told, m, s, by simp only [leapfroglaw18x_ScanRises.l8, sy, reduceIte, Nat.reduceAdd, Nat.reduceLeDiff, Nat.reduceLT, Nat.reduceEqDiff, Int.reduceEq, Int.reduceLT, Int.reduceLE, Int.reduceNe, ly, h.ho.len, e1], h⟩
/-- What was told is found there. -/
theorem in_r {s : St} {tv w : Value} {trows : List (List Value)} {told : List It} {it : It} (hT : IsR s 2 tv trows) (hI : ItR s trows told) (hn : told.length ≤ 1000) (hm : it ∈ told) (hw : Byt s w it.val) :
    leapfroglaw18x_in.r tv (.agg ⟨[.int .u64 it.key, w]⟩) s = some (.bool true) := by
  obtain ⟨k, hk⟩ := List.getElem?_of_mem hm
  have hkl : k < told.length := (List.getElem?_eq_some_iff.1 hk).1
  have hlen : lenL tv = some (.int .i64 told.length) := by rw [hT.len, hI.1]
  obtain ⟨bw, hbw⟩ := hw.ok
  have sw := hw.b2s bw hbw
  have loop : iter (leapfroglaw18x_in.l2 std) BIG [tv, .int .i64 ((0 : Nat) : Int), .agg ⟨[.int .u64 it.key, w]⟩] s = some ((1, [.bool true], s) : Cut) := by
    refine iter_rel (fun d xs s' => ∃ i : Nat, i + d = told.length ∧ i ≤ k ∧ s' = s ∧ xs = [tv, .int .i64 (i : Int), .agg ⟨[.int .u64 it.key, w]⟩]) (fun y : Option Cut => y = some ((1, [.bool true], s) : Cut)) ?_ BIG told.length _ s (by unfold BIG; omega) ⟨0, by omega, by omega, rfl, rfl⟩
    rintro d xs s' rec ⟨i, hi, hik, rfl, rfl⟩ ih
    cases d with
    | zero => omega
    | succ d =>
      have e1 : (i : Int) < told.length := by omega
      have e5 : IntKind.i64.wrap ((i : Int) + 1) = ((i + 1 : Nat) : Int) := by rw [wrap64 (by omega) (by omega)]; omega
      obtain ⟨z, hz⟩ := get_some (l := told) (j := i) (by omega)
      obtain ⟨v1, p1, q1⟩ := hI.at hz
      obtain ⟨o1, al1, ro1, a1, a2, a3⟩ := hT.at p1
      obtain ⟨b1, hb1⟩ := q1.ok
      have s1 := q1.b2s b1 hb1
      have skip : (¬ (z.key = it.key ∧ (⟨⟨b1⟩⟩ : ByteArray) = ⟨⟨bw⟩⟩)) → i < k := by
        intro g
        rcases Nat.lt_or_ge i k with h | h
        · exact h
        · have : i = k := by omega
          subst this
          rw [hk] at hz
          cases hz
          rw [hbw] at hb1
          cases hb1
          exact absurd ⟨rfl, rfl⟩ g
      have go : (¬ (z.key = it.key ∧ (⟨⟨b1⟩⟩ : ByteArray) = ⟨⟨bw⟩⟩)) → rec [tv, .int .i64 ((i + 1 : Nat) : Int), .agg ⟨[.int .u64 it.key, w]⟩] s' = some ((1, [.bool true], s') : Cut) :=
        fun g => ih d _ _ (by omega) ⟨i + 1, by omega, by have := skip g; omega, rfl, rfl⟩
      rcases Classical.propComplete (z.key = it.key) with k1 | k1
      · rcases Classical.propComplete ((⟨⟨b1⟩⟩ : ByteArray) = ⟨⟨bw⟩⟩) with k2 | k2
        · simp only [leapfroglaw18x_in.l2, sy, reduceIte, Nat.reduceAdd, Nat.reduceLeDiff, Nat.reduceLT, Nat.reduceEqDiff, Int.reduceEq, Int.reduceLT, Int.reduceLE, Int.reduceNe, ly, hlen, e1, a1, ldc_row a2, a3, s1, sw, k1, k2]
        · have g := go (fun g => by have := g.2; rw [k2] at this; exact this)
          simp only [leapfroglaw18x_in.l2, sy, reduceIte, Nat.reduceAdd, Nat.reduceLeDiff, Nat.reduceLT, Nat.reduceEqDiff, Int.reduceEq, Int.reduceLT, Int.reduceLE, Int.reduceNe, ly, hlen, e1, a1, ldc_row a2, a3, s1, sw, k1, k2, e5, g]
      · have g := go (fun g => by have := g.1; rw [k1] at this; exact this)
        simp only [leapfroglaw18x_in.l2, sy, reduceIte, Nat.reduceAdd, Nat.reduceLeDiff, Nat.reduceLT, Nat.reduceEqDiff, Int.reduceEq, Int.reduceLT, Int.reduceLE, Int.reduceNe, ly, hlen, e1, a1, ldc_row a2, a3, k1, e5, g]
  rw [show ((0 : Nat) : Int) = 0 from rfl] at loop
  simp only [leapfroglaw18x_in.r, leapfroglaw18x_in.t, sy, reduceIte, Nat.reduceAdd, Nat.reduceLeDiff, Nat.reduceLT, Nat.reduceEqDiff, Int.reduceEq, Int.reduceLT, Int.reduceLE, Int.reduceNe, ly, loop]
/-- All that is told rises, lies in the range, and was told to it. -/
theorem loop22 {c : SC} {s : St} {tv w : Value} {trows rows : List (List Value)} {told ri : List It} (hT : IsR s 2 tv trows) (hI : ItR s trows told) (hn : told.length ≤ 1000) (hR : IsR s 2 w rows) (hr : ItR s rows ri) (hl : ri.length ≤ 64)
    (rise : RiseI ri) (rir : ∀ it ∈ ri, c.low ≤ it.key ∧ it.key ≤ c.high) (all : ∀ it ∈ ri, it ∈ told) :
    iter (leapfroglaw18x_ScanRises.l22 std) BIG [tv, w, .int .i64 0, .agg ⟨c.cs⟩] s = some ((0, [], s) : Cut) := by
  have hlen : lenL w = some (.int .i64 ri.length) := by rw [hR.len, hr.1]
  refine iter_rel (fun d xs s' => ∃ i : Nat, i + d = ri.length ∧ s' = s ∧ xs = [tv, w, .int .i64 (i : Int), .agg ⟨c.cs⟩]) (fun y : Option Cut => y = some ((0, [], s) : Cut)) ?_ BIG ri.length _ s (by unfold BIG; omega) ⟨0, by omega, rfl, rfl⟩
  rintro d xs s' rec ⟨i, hi, rfl, rfl⟩ ih
  cases d with
  | zero =>
    have e1 : ¬ ((i : Int) < ri.length) := by omega
    simp only [leapfroglaw18x_ScanRises.l22, sy, reduceIte, Nat.reduceAdd, Nat.reduceLeDiff, Nat.reduceLT, Nat.reduceEqDiff, Int.reduceEq, Int.reduceLT, Int.reduceLE, Int.reduceNe, ly, hlen, e1]
  | succ d =>
    have e1 : (i : Int) < ri.length := by omega
    have e5 : IntKind.i64.wrap ((i : Int) + 1) = ((i + 1 : Nat) : Int) := by rw [wrap64 (by omega) (by omega)]; omega
    obtain ⟨z, hz⟩ := get_some (l := ri) (j := i) (by omega)
    have hzm := List.mem_of_getElem? hz
    obtain ⟨v1, p1, q1⟩ := hr.at hz
    obtain ⟨o1, al1, ro1, a1, a2, a3⟩ := hR.at p1
    obtain ⟨g1, g2⟩ := rir z hzm
    have c1 : ¬ (z.key < c.low) := by omega
    have c2 : ¬ (c.high < z.key) := by omega
    have inr := in_r hT hI hn (all z hzm) q1
    have go := ih d _ _ (by omega) ⟨i + 1, by omega, rfl, rfl⟩
    have bxv := q1.bx
    by_cases h0 : i = 0
    · subst h0
      have c3 : ¬ ((0 : Int) < ((0 : Nat) : Int)) := by omega
      simp only [leapfroglaw18x_ScanRises.l22, leapfroglaw18x_ScanRises.l22.p1, sy, reduceIte, Nat.reduceAdd, Nat.reduceLeDiff, Nat.reduceLT, Nat.reduceEqDiff, Int.reduceEq, Int.reduceLT, Int.reduceLE, Int.reduceNe, ly, hlen, e1, a1, ldc_row a2, lda_row a2, a3, c1, c2, c3, inr, e5, go]
    · have c3 : (0 : Int) < (i : Int) := by omega
      have e6 : IntKind.i64.wrap ((i : Int) - 1) = ((i - 1 : Nat) : Int) := by rw [wrap64 (by omega) (by omega)]; omega
      obtain ⟨y, hy⟩ := get_some (l := ri) (j := i - 1) (by omega)
      obtain ⟨v2, p2, q2⟩ := hr.at hy
      obtain ⟨o2, al2, ro2, d1, d2, d3⟩ := hR.at p2
      have lt : y.key < z.key := by
        have := (List.pairwise_iff_getElem.1 rise) (i - 1) i (by omega) (by omega) (by omega)
        rw [List.getElem?_eq_getElem (by omega), Option.some.injEq] at hy hz
        rw [← hy, ← hz]
        exact this
      have c4 : ¬ (z.key ≤ y.key) := by omega
      simp only [leapfroglaw18x_ScanRises.l22, leapfroglaw18x_ScanRises.l22.p1, sy, reduceIte, Nat.reduceAdd, Nat.reduceLeDiff, Nat.reduceLT, Nat.reduceEqDiff, Int.reduceEq, Int.reduceLT, Int.reduceLE, Int.reduceNe, ly, hlen, e1, a1, ldc_row a2, lda_row a2, a3, c1, c2, c3, e6, d1, ldc_row d2, d3, c4, inr, e5, go]
theorem isA_of4 {s : St} {v : Value} (h : Leaf.Sm s (.sl [.i .i64, .b, .i .i64, .i .i64, .i .u64, .i .i64, .i .u64, .i .i64, .i .i64, .i .u64, .i .i64, .i .u64, .sl [.i .u8]]) v) : ∃ l, IsA s v l ∧ ∀ (j : Nat) (a : Ans), l[j]? = some a → ValS s a.v ∧ inN a.r.n := by
  unfold Leaf.Sm at h
  rcases h with rfl | ⟨b, len, cap, rows, rfl, h1, h2, h3, h4, h5⟩
  · exact ⟨[], .inl ⟨rfl, rfl⟩, fun j a h => by simp at h⟩
  · have g : ∀ (j : Nat) a, ((rows.take len).map ansOf)[j]? = some a → rows[j]? = some a.cs ∧ ValS s a.v ∧ inN a.r.n := by
      intro j a ha
      rw [List.getElem?_map, Option.map_eq_some_iff] at ha
      obtain ⟨r, hr, rfl⟩ := ha
      rw [List.getElem?_take] at hr
      split at hr
      · have hm := h5 r (List.mem_of_getElem? hr)
        have := ans_of (Leaf.Sms.are hm)
        rw [hr, ← this.1]
        exact ⟨rfl, ansS_of hm, ans_rn (Leaf.Sms.are hm)⟩
      · cases hr
    exact ⟨(rows.take len).map ansOf, .inr ⟨b, 0, 2 * cap, rows, true, by rw [List.length_map, List.length_take]; congr 1; omega, h3, fun j a ha => by rw [Nat.zero_add]; exact (g j a ha).1⟩, fun j a ha => (g j a ha).2⟩

theorem law (s : St) (us : List Value) (ha : AllRo s) (hf : ∀ b, s.n ≤ b → s.get b = none) (h : ArgsM s [(true, [.i .i64, .i .i64, .i .i64, .i .u64, .i .i64, .i .u64, .i .u64, .i .u64]), (false, [.sl [.i .i64, .b, .i .i64, .i .i64, .i .u64, .i .i64, .i .u64, .i .i64, .i .i64, .i .u64, .i .i64, .i .u64, .sl [.i .u8]]])] us) :
    ∃ s', leapfroglaw18x_ScanRises.w us s = some (.bool true, s') := by
  simp only [ArgsM, ArgM] at h
  obtain ⟨_, _, rfl, ⟨_, rfl, h1⟩, v, _, rfl, h2, rfl⟩ := h
  unfold Leaf.Sms Leaf.Sms at h2
  obtain ⟨v', _, g1, h2, rfl⟩ := h2
  obtain rfl : v = v' := (List.cons.inj g1).1
  have h1 := Leaf.Sms.are h1
  simp only [Leaf.Are, Leaf.Is] at h1
  obtain ⟨_, _, rfl, ⟨hh, rfl, _⟩, _, _, rfl, ⟨i1, rfl, _⟩, _, _, rfl, ⟨i2, rfl, _⟩, _, _, rfl, ⟨i3, rfl, _⟩, _, _, rfl, ⟨i4, rfl, _⟩, _, _, rfl, ⟨i5, rfl, hi5⟩, _, _, rfl, ⟨lo, rfl, _⟩, _, _, rfl, ⟨hg, rfl, _⟩, rfl⟩ := h1
  obtain ⟨l, hl, hvals⟩ := isA_of4 h2
  have hm0 := (wf_u64 hi5).1
  have hf : Fresh s := hf
  show ∃ s', leapfroglaw18x_ScanRises.v (.agg ⟨(⟨hh, ⟨i1, i2, i3, i4, i5⟩, lo, hg⟩ : SC).cs⟩) v s = some (.bool true, s')
  generalize hc : (⟨hh, ⟨i1, i2, i3, i4, i5⟩, lo, hg⟩ : SC) = c
  have hm0 : 0 ≤ c.st.bt := by rw [← hc]; exact hm0
  rcases new_at hf c hm0 with ⟨hC, s1, q1, m1⟩ | ⟨hC, s1, q1, hat, m1⟩
  · exact ⟨s1, by simp only [leapfroglaw18x_ScanRises.v, leapfroglaw18x_ScanRises.t, sy, reduceIte, Nat.reduceAdd, Nat.reduceLeDiff, Nat.reduceLT, Nat.reduceEqDiff, Int.reduceEq, Int.reduceLT, Int.reduceLE, Int.reduceNe, ly, awake_r, q1]⟩
  · have f1 := m1.fresh hf
    have k1 : StpK [] s s1 := .more m1 hf
    have H0 : Here c v l s.n 0 s1 nilV [] (newS c) := by
      refine ⟨⟨nilV, [], hat, .nil, .nil, fun x hx => absurd hx own_nil⟩, rz_new c, ?_, ?_, Nat.le_refl _, by omega, hl.stp k1 (by simp), fun j a hj => ⟨valS_stp (hvals j a hj).1 k1 (by simp), (hvals j a hj).2⟩, f1⟩
      all_goals
        unfold newS
        split
        · exact ⟨by simp [endsS, mS], by simp [endsS]⟩
        · exact ⟨by simp [mS], by simp [mS]⟩
    obtain ⟨N, tv, told, m', s2, e, H2⟩ := loop hm0 H0
    simp only [XS] at e
    rw [show ((0 : Nat) : Int) = 0 from rfl] at e
    obtain ⟨iv, trows, hat2, hT, hI, _⟩ := H2.ex
    obtain ⟨s3, w, n1, m3, f3, nr⟩ := next_at H2.fr hat2 (fun it hi => by have := H2.big.2 it hi; omega)
    have k3 : StpK [] s2 s3 := .more m3 H2.fr
    have hT3 := (hT.stp k3 (by simp)).isR
    have hI3 := hI.stp k3 (by simp)
    have hn : told.length ≤ 1000 := by have := H2.tl; have := H2.cap; omega
    refine ⟨s3, ?_⟩
    cases ov : m'.ov with
    | true =>
      obtain ⟨rows, gR, gI⟩ := nr ov
      have hl64 := hat2.inv.ril
      have lp := loop22 hT3 hI3 hn gR gI hl64 H2.rz.b.ri H2.rz.b.rir H2.all.2
      rw [nextS_ov ov] at n1
      have hlen : lenL w = some (.int .i64 m'.ri.length) := by rw [gR.len, gI.1]
      have bxw := gR.bx
      have c2 : ¬ ((64 : Int) < m'.ri.length) := by omega
      rcases Classical.propComplete (m'.e = 0) with k | k
      · simp only [leapfroglaw18x_ScanRises.v, leapfroglaw18x_ScanRises.t, leapfroglaw18x_ScanRises.t.p1, sy, reduceIte, Nat.reduceAdd, Nat.reduceLeDiff, Nat.reduceLT, Nat.reduceEqDiff, Int.reduceEq, Int.reduceLT, Int.reduceLE, Int.reduceNe, ly, awake_r, q1, e, n1, hlen, bxw, k, c2, lp]
      · have he := H2.rz.b.e ov (of_eq_false k)
        have c1 : ¬ ((0 : Int) < m'.ri.length) := by rw [he]; simp
        simp only [leapfroglaw18x_ScanRises.v, leapfroglaw18x_ScanRises.t, leapfroglaw18x_ScanRises.t.p1, sy, reduceIte, Nat.reduceAdd, Nat.reduceLeDiff, Nat.reduceLT, Nat.reduceEqDiff, Int.reduceEq, Int.reduceLT, Int.reduceLE, Int.reduceNe, ly, awake_r, q1, e, n1, hlen, bxw, k, c1, c2, lp]
    | false =>
      have sc : ∃ k t a r, nextS m' w = stepC k t a r := by
        cases w' : m'.w with
        | true => rw [nextS_w ov w']; exact ⟨_, _, _, _, rfl⟩
        | false =>
          by_cases hsk : m'.hs = true ∧ m'.so = false
          · rw [nextS_sk ov w' hsk]; unfold nextC; split <;> exact ⟨_, _, _, _, rfl⟩
          · rw [nextS_hd ⟨ov, w', hsk⟩]; exact ⟨_, _, _, _, rfl⟩
      obtain ⟨k, t, a, r, hs⟩ := sc
      rw [hs] at n1
      have lp := loop22 (c := c) hT3 hI3 hn (.nil : IsR s3 2 nilV []) (.nil : ItR s3 [] []) (by simp) .nil (fun it hi => by simp at hi) (fun it hi => by simp at hi)
      have z0 : ((0 : Nat) : Int) = 0 := rfl
      have z1 : ¬ ((0 : Int) < 0) := by omega
      have z2 : ¬ ((64 : Int) < 0) := by omega
      rcases Classical.propComplete (k = 3) with k | k
      · rcases Classical.propComplete (r.e = 0) with k2 | k2
        · simp only [leapfroglaw18x_ScanRises.v, leapfroglaw18x_ScanRises.t, leapfroglaw18x_ScanRises.t.p1, sy, reduceIte, Nat.reduceAdd, Nat.reduceLeDiff, Nat.reduceLT, Nat.reduceEqDiff, Int.reduceEq, Int.reduceLT, Int.reduceLE, Int.reduceNe, ly, awake_r, q1, e, n1, k, k2, z0, z1, z2, lp]
        · simp only [leapfroglaw18x_ScanRises.v, leapfroglaw18x_ScanRises.t, leapfroglaw18x_ScanRises.t.p1, sy, reduceIte, Nat.reduceAdd, Nat.reduceLeDiff, Nat.reduceLT, Nat.reduceEqDiff, Int.reduceEq, Int.reduceLT, Int.reduceLE, Int.reduceNe, ly, awake_r, q1, e, n1, k, k2, z0, z1, z2, lp]
      · simp only [leapfroglaw18x_ScanRises.v, leapfroglaw18x_ScanRises.t, leapfroglaw18x_ScanRises.t.p1, sy, reduceIte, Nat.reduceAdd, Nat.reduceLeDiff, Nat.reduceLT, Nat.reduceEqDiff, Int.reduceEq, Int.reduceLT, Int.reduceLE, Int.reduceNe, ly, awake_r, q1, e, n1, k]
end ScanRises
end Go.Proofs.Ytmobdijoaebilaa
