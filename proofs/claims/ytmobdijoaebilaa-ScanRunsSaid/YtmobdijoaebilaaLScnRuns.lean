/-
  ScanRuns, over abstract values.
-/
import Derived.Test.YtmobdijoaebilaaScnG
set_option linter.unusedSimpArgs false
set_option linter.unusedVariables false
set_option maxRecDepth 100000
set_option maxHeartbeats 2000000
namespace Go.Proofs.Ytmobdijoaebilaa
open Go.Sim Go.Sim.Bt
attribute [local congr] bdc cndc itec gdc gdSc gdUc
namespace ScanRuns
theorem awake_r (s : St) : leapfroglaw18x_awakeC.r s = some (.bool true) := rfl
theorem AtS.toK {c : SC} {m : Sc} {s s' : St} {p N : Nat} {iv iv' : Value} (h : AtS c m s p N iv) (k : StS iv iv' s s') : StpK [2, 37, 40, 1000] s s' := by
  obtain ⟨b, q, sp, riv, rows, rrows, _, _, _, _, hF, _⟩ := h.ex
  exact hF.toK k
theorem AtS.has {c : SC} {m : Sc} {s : St} {p N : Nat} {iv : Value} (h : AtS c m s p N iv) : ∀ x, own iv x → ∃ k, s.get x = some k := by
  obtain ⟨b, q, sp, riv, rows, rrows, _, _, _, _, hF, _⟩ := h.ex
  exact hF.has
/-- The bits of the wakes. -/
theorem bits (W : Nat) (j : Nat) (hj : j ≤ 1000) (hW : W < 2 ^ 64) : bin .rem (.int .i64 (j : Int)) (.int .i64 64) = some (.int .i64 ((j % 64 : Nat) : Int)) ∧ IntKind.u64.wrap ((j % 64 : Nat) : Int) = ((j % 64 : Nat) : Int) ∧
    bin .shr (.int .u64 (W : Int)) (.int .u64 ((j % 64 : Nat) : Int)) = some (.int .u64 ((W / 2 ^ (j % 64) : Nat) : Int)) ∧ bin .and (.int .u64 ((W / 2 ^ (j % 64) : Nat) : Int)) (.int .u64 1) = some (.int .u64 ((W / 2 ^ (j % 64) &&& 1 : Nat) : Int)) :=
  ⟨by rw [bin_rem (by omega)]; rfl, wrapu64 (by omega) (by omega), @shr_u64 W (j % 64) .u64 (by omega), @and_u64 _ 1 (Nat.lt_of_le_of_lt (Nat.div_le_self _ _) hW) (by omega)⟩
/-- The two machines stand side by side. -/
structure Two (c : SC) (v : Value) (l : List Ans) (p pr n0 N : Nat) (m : Sc) (s : St) : Prop where
  ex : ∃ iv ivr rivr, AtS c m s p N iv ∧ AtT n0 c m s pr N ivr rivr ∧ ∀ x, own ivr x → ¬ own iv x
  big : AllI (fun it => it.val.length ≤ 100000) m
  ho : IsA s v l
  hv : ∀ b i len e, v = .slice (some ⟨b, i, some 0⟩) len e → b < n0
  vals : ∀ (j : Nat) (a : Ans), l[j]? = some a → ValIs s a.v
  fr : Fresh s
theorem isA_prot {n0 : Nat} {s s' : St} {v : Value} {l : List Ans} (h : IsA s v l) (hv : ∀ b i len e, v = .slice (some ⟨b, i, some 0⟩) len e → b < n0) (k : Prot n0 s s') : IsA s' v l := by
  rcases h with h | ⟨x, i, e, rows, ro, rfl, hg, hr⟩
  · exact .inl h
  · exact .inr ⟨x, i, e, rows, ro, rfl, k x _ _ (hv _ _ _ _ rfl) hg, hr⟩
/-- Both show the same step. -/
theorem nexts {c : SC} {v : Value} {l : List Ans} {p pr n0 N : Nat} {m : Sc} {s : St} (h : Two c v l p pr n0 N m s) :
    ∃ s' x y, scan_Scan_Next.v (P p) s = some (.agg ⟨x⟩, s') ∧ leapfrogref18x_Scan_Next.r (P pr) s' = some (.agg ⟨y⟩) ∧ leapfrogref12x_SameStep.r (.agg ⟨x⟩) (.agg ⟨y⟩) s' = some (.bool true) ∧ Two c v l p pr n0 N m s' := by
  obtain ⟨iv, ivr, rivr, hat, haT, sep⟩ := h.ex
  obtain ⟨s1, w, n1, m1, f1, nr⟩ := next_at h.fr hat (fun it hi => by have := h.big.2 it hi; omega)
  have k1 : StpK [] s s1 := .more m1 h.fr
  have hat1 := hat.stp k1 (by simp) (by simp) (by simp) (by simp) (by simp)
  have haT1 := haT.stp h.fr k1 (by simp) (by simp) (by simp) (by simp) (by simp)
  obtain ⟨n2, _, _, rrows, hR, hI⟩ := next_t haT1
  refine ⟨s1, _, _, n1, n2, ?_, ⟨⟨iv, ivr, rivr, hat1, haT1, sep⟩, h.big, h.ho.stp k1 (by simp), h.hv, fun j a hj => val_stp (h.vals j a hj) k1 (by simp), f1⟩⟩
  cases ov : m.ov with
  | true =>
    obtain ⟨rows, gR, gI⟩ := nr ov
    rw [nextS_ov ov, nextS_ov ov]
    exact sameStepI_r gR gI hR hI (by have := hat.inv.ril; omega)
  | false =>
    cases w' : m.w with
    | true => rw [nextS_w ov w', nextS_w ov w']; exact sameStep_r _ _ _ _ s1
    | false =>
      by_cases hsk : m.hs = true ∧ m.so = false
      · rw [nextS_sk ov w' hsk, nextS_sk ov w' hsk]
        unfold nextC
        split
        all_goals exact sameStep_r _ _ _ _ s1
      · rw [nextS_hd ⟨ov, w', hsk⟩, nextS_hd ⟨ov, w', hsk⟩]; exact sameStep_r _ _ _ _ s1
theorem tries {c : SC} {v : Value} {l : List Ans} {p pr n0 N : Nat} {m : Sc} {s : St} (h : Two c v l p pr n0 N m s) :
    scan_Scan_Tries.r (P p) s = some (.int .i64 m.tr) ∧ ∃ xr sor d ivr rivr, TRow s pr (trow c m xr sor d ivr rivr) := by
  obtain ⟨iv, ivr, rivr, hat, haT, sep⟩ := h.ex
  obtain ⟨xr, sor, msr, d, wv, ws, cf, rows, rrows, g1, _⟩ := haT.ex
  exact ⟨tries_s hat, xr, sor, d, ivr, rivr, g1⟩
/-- Both are told. -/
theorem tells {c : SC} {v : Value} {l : List Ans} {p pr n0 N : Nat} {m : Sc} {s : St} (hb : 0 ≤ c.st.bt) (hN : N ≤ 9000) (h : Two c v l p pr n0 N m s) (a : Ans) {al : List (List Value)} (hB : Byt s a.v al) (hal : al.length ≤ 100000) :
    ∃ s1 s2 m', scan_Scan_Tell.v (P p) (.agg ⟨a.cs⟩) s = some (unit', s1) ∧ IsA s1 v l ∧ leapfrogref18x_Scan_Tell.v (P pr) (.agg ⟨a.cs⟩) s1 = some (unit', s2) ∧ Two c v l p pr n0 (N + 1) m' s2 := by
  obtain ⟨iv, ivr, rivr, hat, haT, sep⟩ := h.ex
  obtain ⟨D, x, hch, hD⟩ := chase_ex m.ms.tab m.ms.wl m.ms.wb (cnt m.ms.tab a.r + 1) (curF m.ms).rk (curF m.ms).n a.r (by omega)
  have hcn : cnt m.ms.tab a.r ≤ m.ms.tab.length := List.length_filter_le _ _
  have htb := hat.inv.tab
  have hDB : D < BIG := by unfold BIG; omega
  obtain ⟨s1, iv1, e1, h1, st1⟩ := tell_at h.fr hb hat a hB hal hch hDB
  have f1 := st1.fr h.fr
  have k1 := AtS.toK hat st1
  have haT1 := haT.sep h.fr st1 k1 sep
  have sep1 := sep_stp h.fr haT.has st1 sep
  have ho1 := h.ho.stp k1 (by simp)
  obtain ⟨s2, ivr2, rivr2, e2, h2, k2, p2, o2⟩ := tell_t f1 hb hN haT1 hat.inv (fun ov => hat.ri ov) a (hB.stp k1 (by simp)) hch hDB
  refine ⟨s1, s2, _, e1, ho1, e2, ⟨iv1, ivr2, rivr2, h1.stp k2 (by simp) (by simp) (by simp) (by simp) (by simp), h2, fun x hx hi => ?_⟩, allI_tell h.big fun _ _ _ => hal, isA_prot ho1 h.hv p2, h.hv, fun j a hj => val_stp (val_stp (h.vals j a hj) k1 (by simp)) k2 (by simp), k2.2.2 f1⟩
  rcases o2 x hx with g | g
  · exact sep1 x g hi
  · obtain ⟨y, hy⟩ := AtS.has h1 x hi
    have := f1.lt hy
    omega
/-- Both are woken. -/
theorem wakes {c : SC} {v : Value} {l : List Ans} {p pr n0 N : Nat} {m : Sc} {s : St} (hb : 0 ≤ c.st.bt) (h : Two c v l p pr n0 N m s) :
    ∃ s1 s2 m', scan_Scan_Wake.v (P p) s = some (unit', s1) ∧ leapfrogref18x_Scan_Wake.v (P pr) s1 = some (unit', s2) ∧ Two c v l p pr n0 N m' s2 := by
  obtain ⟨iv, ivr, rivr, hat, haT, sep⟩ := h.ex
  obtain ⟨s1, e1, h1, st1⟩ := wake_at h.fr hb hat
  have f1 := st1.fr h.fr
  have k1 := AtS.toK hat st1
  have haT1 := haT.sep h.fr st1 k1 sep
  obtain ⟨s2, rivr2, e2, h2, k2⟩ := wake_t f1 hb haT1 hat.inv (fun ov => hat.ri ov)
  exact ⟨s1, s2, _, e1, e2, ⟨iv, ivr, rivr2, h1.stp k2 (by simp) (by simp) (by simp) (by simp) (by simp), h2, sep⟩, allI_wake h.big, (h.ho.stp k1 (by simp)).stp k2 (by simp), h.hv, fun j a hj => val_stp (val_stp (h.vals j a hj) k1 (by simp)) k2 (by simp), k2.2.2 f1⟩
abbrev XS (v : Value) (W p pr j : Nat) : List Value := [v, .int .u64 (W : Int), P p, P pr, .int .i64 (j : Int)]
theorem step {c : SC} {v : Value} {l : List Ans} {p pr n0 j W : Nat} {m : Sc} {s : St} (hb : 0 ≤ c.st.bt) (hW : W < 2 ^ 64) (h : Two c v l p pr n0 j m s) (hj : j < 400) {a : Ans} (ha : l[j]? = some a) (rec : List Value → St → Option Cut) :
    ∃ s' m', leapfroglaw18x_ScanRuns.l8 std rec (XS v W p pr j) s = rec (XS v W p pr (j + 1)) s' ∧ Two c v l p pr n0 (j + 1) m' s' := by
  have hjl : j < l.length := (List.getElem?_eq_some_iff.1 ha).1
  have e1 : (j : Int) < l.length := by omega
  have e2 : (j : Int) < 400 := by omega
  have e5 : IntKind.i64.wrap ((j : Int) + 1) = ((j + 1 : Nat) : Int) := by rw [wrap64 (by omega) (by omega)]; omega
  have hlen := h.ho.len
  have hnil : eqb [3] false true (P pr) (.pointer none) = some (.bool true) := rfl
  obtain ⟨b1, i1, rows1, ro1, a1, a2, a3⟩ := h.ho.at ha
  obtain ⟨al, hB⟩ := byt_val (h.vals j a ha)
  have hll := hB.lenL
  rcases Classical.propComplete ((3000 : Int) < al.length) with k3 | k3
  · refine ⟨s, m, ?_, ?_⟩
    · simp only [leapfroglaw18x_ScanRuns.l8, sy, reduceIte, Nat.reduceAdd, Nat.reduceLeDiff, Nat.reduceLT, Nat.reduceEqDiff, Int.reduceEq, Int.reduceLT, Int.reduceLE, Int.reduceNe, ly, hlen, e1, e2, hnil, a1, ldc_row a2, a3, hll, k3, e5]
    · obtain ⟨⟨iv, ivr, rivr, hat, haT, sep⟩, h2, h3, h4, h5, h6⟩ := h
      exact ⟨⟨iv, ivr, rivr, hat.le (by omega), haT.le (by omega), sep⟩, h2, h3, h4, h5, h6⟩
  · have hal : al.length ≤ 100000 := by have := of_eq_false k3; omega
    obtain ⟨s1, x, y, n1, n2, n3, H1⟩ := nexts h
    obtain ⟨t1, xr, sor, d, ivr, rivr, t2⟩ := tries H1
    obtain ⟨b2, i2, rows2, ro2, c1, c2, c3⟩ := H1.ho.at ha
    obtain ⟨al', hB'⟩ := byt_val (H1.vals j a ha)
    have hal' : al'.length ≤ 100000 := by
      have := hB'.lenL
      rw [hll] at this
      injection this with this; injection this with _ this
      omega
    obtain ⟨s2, s3, m3, u1, ho2, u2, H3⟩ := tells hb (by omega) H1 a hB' hal'
    obtain ⟨b3, i3, rows3, ro3, d1, d2, d3⟩ := ho2.at ha
    obtain ⟨w1, w2, w3, w4⟩ := bits W j (by omega) hW
    rcases Classical.propComplete (((W / 2 ^ (j % 64) &&& 1 : Nat) : Int) = 1) with k | k
    · obtain ⟨s4, s5, m5, v1, v2, H5⟩ := wakes hb H3
      refine ⟨s5, m5, ?_, H5⟩
      simp only [leapfroglaw18x_ScanRuns.l8, leapfroglaw18x_ScanRuns.l8.p1, sy, reduceIte, Nat.reduceAdd, Nat.reduceLeDiff, Nat.reduceLT, Nat.reduceEqDiff, Int.reduceEq, Int.reduceLT, Int.reduceLE, Int.reduceNe, ly, hlen, e1, e2, hnil, a1, ldc_row a2, a3, hll, k3, n1, n2, n3, t1, ldc_row t2, c1, lda_row c2, c3, u1, d1, lda_row d2, d3, u2, w1, w2, w3, w4, k, v1, v2, e5]
    · refine ⟨s3, m3, ?_, H3⟩
      simp only [leapfroglaw18x_ScanRuns.l8, leapfroglaw18x_ScanRuns.l8.p1, sy, reduceIte, Nat.reduceAdd, Nat.reduceLeDiff, Nat.reduceLT, Nat.reduceEqDiff, Int.reduceEq, Int.reduceLT, Int.reduceLE, Int.reduceNe, ly, hlen, e1, e2, hnil, a1, ldc_row a2, a3, hll, k3, n1, n2, n3, t1, ldc_row t2, c1, lda_row c2, c3, u1, d1, lda_row d2, d3, u2, w1, w2, w3, w4, k, e5]
theorem loop {c : SC} {v : Value} {l : List Ans} {p pr n0 W : Nat} {m : Sc} {s : St} (hb : 0 ≤ c.st.bt) (hW : W < 2 ^ 64) (h : Two c v l p pr n0 0 m s) :
    ∃ N m' s', iter (leapfroglaw18x_ScanRuns.l8 std) BIG (XS v W p pr 0) s = some ((0, [P p, P pr], s') : Cut) ∧ Two c v l p pr n0 N m' s' := by
  refine iter_rel (fun k xs s' => ∃ m j, Two c v l p pr n0 j m s' ∧ j + k = 400 ∧ xs = XS v W p pr j)
    (fun y : Option Cut => ∃ N m' s', y = some ((0, [P p, P pr], s') : Cut) ∧ Two c v l p pr n0 N m' s') ?_ BIG 400 _ s (by unfold BIG; omega) ⟨m, 0, h, by omega, rfl⟩
  rintro k xs s rec ⟨m, j, h, hj, rfl⟩ ih
  by_cases h1 : j < l.length
  · have e1 : (j : Int) < l.length := by omega
    cases k with
    | zero =>
      have e2 : ¬ ((j : Int) < 400) := by omega
      exact ⟨j, m, s, by simp only [leapfroglaw18x_ScanRuns.l8, sy, reduceIte, Nat.reduceAdd, Nat.reduceLeDiff, Nat.reduceLT, Nat.reduceEqDiff, Int.reduceEq, Int.reduceLT, Int.reduceLE, Int.reduceNe, ly, h.ho.len, e1, e2], h⟩
    | succ k =>
      obtain ⟨a, ha⟩ := get_some h1
      obtain ⟨s', m', g1, g2⟩ := step hb hW h (by omega) ha rec
      rw [g1]
      exact ih k _ _ (by omega) ⟨m', j + 1, g2, by omega, rfl⟩
  · have e1 : ¬ ((j : Int) < l.length) := by omega
    exact ⟨j, m, s, by simp only [leapfroglaw18x_ScanRuns.l8, sy, reduceIte, Nat.reduceAdd, Nat.reduceLeDiff, Nat.reduceLT, Nat.reduceEqDiff, Int.reduceEq, Int.reduceLT, Int.reduceLE, Int.reduceNe, ly, h.ho.len, e1], h⟩
theorem loop0 {v w : Value} {l : List Ans} {s s0 : St} (h : IsA s0 v l) : iter (leapfroglaw18x_ScanRuns.l8 std) BIG [v, w, .pointer none, .pointer none, .int .i64 0] s = some ((0, [.pointer none, .pointer none], s) : Cut) := by
  rw [show BIG = 4611686018427387903 + 1 from rfl, iter_succ]
  have hnil : eqb [3] false true (.pointer none) (.pointer none) = some (.bool false) := rfl
  rcases Classical.propComplete ((0 : Int) < l.length) with e1 | e1
  · simp only [leapfroglaw18x_ScanRuns.l8, sy, reduceIte, Nat.reduceAdd, Nat.reduceLeDiff, Nat.reduceLT, Nat.reduceEqDiff, Int.reduceEq, Int.reduceLT, Int.reduceLE, Int.reduceNe, ly, h.len, e1, hnil]
  · simp only [leapfroglaw18x_ScanRuns.l8, sy, reduceIte, Nat.reduceAdd, Nat.reduceLeDiff, Nat.reduceLT, Nat.reduceEqDiff, Int.reduceEq, Int.reduceLT, Int.reduceLE, Int.reduceNe, ly, h.len, e1]

theorem law (s : St) (us : List Value) (ha : AllRo s) (hf : ∀ b, s.n ≤ b → s.get b = none) (h : Args s [(true, [.i .i64, .i .i64, .i .i64, .i .u64, .i .i64, .i .u64, .i .u64, .i .u64]), (false, [.sl [.i .i64, .b, .i .i64, .i .i64, .i .u64, .i .i64, .i .u64, .i .i64, .i .i64, .i .u64, .i .i64, .i .u64, .sl [.i .u8]]]), (false, [.i .u64])] us) :
    ∃ s', leapfroglaw18x_ScanRuns.w us s = some (.bool true, s') := by
  simp only [Args, Arg] at h
  obtain ⟨_, _, rfl, ⟨_, rfl, h1⟩, v, _, rfl, h2, w, _, rfl, h3, rfl⟩ := h
  unfold Leaf.Are Leaf.Are at h2 h3
  obtain ⟨v', _, g1, h2, rfl⟩ := h2
  obtain rfl : v = v' := (List.cons.inj g1).1
  obtain ⟨w', _, g2, h3, rfl⟩ := h3
  obtain rfl : w = w' := (List.cons.inj g2).1
  simp only [Leaf.Are, Leaf.Is] at h1
  unfold Leaf.Is at h3
  obtain ⟨_, _, rfl, ⟨hh, rfl, _⟩, _, _, rfl, ⟨i1, rfl, _⟩, _, _, rfl, ⟨i2, rfl, _⟩, _, _, rfl, ⟨i3, rfl, _⟩, _, _, rfl, ⟨i4, rfl, _⟩, _, _, rfl, ⟨i5, rfl, hi5⟩, _, _, rfl, ⟨lo, rfl, _⟩, _, _, rfl, ⟨hg, rfl, _⟩, rfl⟩ := h1
  obtain ⟨W, rfl, hW⟩ := h3
  obtain ⟨W, rfl⟩ : ∃ w : Nat, W = w := ⟨W.toNat, by have := (wf_u64 hW).1; omega⟩
  have hW : W < 2 ^ 64 := by have := (wf_u64 hW).2; omega
  obtain ⟨l, hl, hvals⟩ := isA_of2 h2
  have hm0 := (wf_u64 hi5).1
  have hf : Fresh s := hf
  show ∃ s', leapfroglaw18x_ScanRuns.v (.agg ⟨(⟨hh, ⟨i1, i2, i3, i4, i5⟩, lo, hg⟩ : SC).cs⟩) v (.int .u64 (W : Int)) s = some (.bool true, s')
  generalize hc : (⟨hh, ⟨i1, i2, i3, i4, i5⟩, lo, hg⟩ : SC) = c
  have hm0 : 0 ≤ c.st.bt := by rw [← hc]; exact hm0
  have hnilL : eqb [3] false false (.pointer none) (.pointer none) = some (.bool true) := rfl
  rcases new_at hf c hm0 with ⟨hC, s1, q1, m1⟩ | ⟨hC, s1, q1, hat, m1⟩
  · rcases new_t (m1.fresh hf) c hm0 with ⟨_, s2, q2⟩ | ⟨g, _⟩
    · have e := loop0 (s := s2) (w := .int .u64 (W : Int)) hl
      exact ⟨s2, by simp only [leapfroglaw18x_ScanRuns.v, leapfroglaw18x_ScanRuns.t, sy, reduceIte, Nat.reduceAdd, Nat.reduceLeDiff, Nat.reduceLT, Nat.reduceEqDiff, Int.reduceEq, Int.reduceLT, Int.reduceLE, Int.reduceNe, ly, awake_r, q1, q2, e, hnilL]⟩
    · exact absurd g hC
  · have f1 := m1.fresh hf
    rcases new_t f1 c hm0 with ⟨g, _⟩ | ⟨_, s2, q2, haT, m2⟩
    · exact absurd hC g
    · have f2 := m2.fresh f1
      have k1 : StpK [] s s1 := .more m1 hf
      have k2 : StpK [] s1 s2 := .more m2 f1
      have H0 : Two c v l s.n s1.n s1.n 0 (newS c) s2 := by
        refine ⟨⟨nilV, nilV, nilV, hat.stp k2 (by simp) (by simp) (by simp) (by simp) (by simp), haT, fun x hx => absurd hx own_nil⟩, ?_, (hl.stp k1 (by simp)).stp k2 (by simp), fun b i len e hv => ?_, fun j a hj => val_stp (val_stp (hvals j a hj) k1 (by simp)) k2 (by simp), f2⟩
        · unfold newS
          split
          · exact ⟨by simp [endsS, mS], by simp [endsS]⟩
          · exact ⟨by simp [mS], by simp [mS]⟩
        · rcases hl with ⟨h0, _⟩ | ⟨b', i', e', rows, ro, h0, hg, _⟩
          · rw [hv] at h0; cases h0
          · rw [hv] at h0; cases h0
            have := Fresh.lt hf hg
            have := m1.n
            omega
      obtain ⟨N, m', s3, e, H3⟩ := loop hm0 hW H0
      simp only [XS] at e
      rw [show ((0 : Nat) : Int) = 0 from rfl] at e
      obtain ⟨s4, x, y, n1, n2, n3, _⟩ := nexts H3
      have hnil1 : eqb [3] false false (P s.n) (.pointer none) = some (.bool false) := rfl
      have hnil2 : eqb [3] false false (P s1.n) (.pointer none) = some (.bool false) := rfl
      exact ⟨s4, by simp only [leapfroglaw18x_ScanRuns.v, leapfroglaw18x_ScanRuns.t, sy, reduceIte, Nat.reduceAdd, Nat.reduceLeDiff, Nat.reduceLT, Nat.reduceEqDiff, Int.reduceEq, Int.reduceLT, Int.reduceLE, Int.reduceNe, ly, awake_r, q1, q2, e, hnil1, hnil2, n1, n2, n3]⟩
end ScanRuns
end Go.Proofs.Ytmobdijoaebilaa
