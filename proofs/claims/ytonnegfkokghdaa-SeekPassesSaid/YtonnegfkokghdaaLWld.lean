/-
  SeekFinds, over abstract values; and what all laws on worlds share.
-/
import Derived.Test.YtonnegfkokghdaaWldE
set_option linter.unusedSimpArgs false
set_option linter.unusedVariables false
set_option maxRecDepth 100000
set_option maxHeartbeats 2000000
namespace Go.Proofs.Ytonnegfkokghdaa
open Go.Sim Go.Sim.Bt
attribute [local congr] bdc cndc itec gdc gdSc gdUc

theorem isU_of {s : St} {v : Value} (h : Leaf.Is s (.sl [.i .u64]) v) : ∃ l : List Int, IsR s 1 v (l.map UC) ∧ ∀ b ∈ l, 0 ≤ b ∧ b ≤ 18446744073709551615 := by
  unfold Leaf.Is at h
  rcases h with rfl | ⟨b, len, cap, rows, rfl, h1, h2, h3, h4, h5⟩
  · exact ⟨[], .nil, by simp⟩
  · have h3 : s.get b = some (.row 1 rows true) := h3
    have g : ∀ r ∈ rows, ∃ n, r = UC n ∧ 0 ≤ n ∧ n ≤ 18446744073709551615 := by
      intro r hr
      have := h5 r hr
      unfold Leaf.Are Leaf.Are Leaf.Is at this
      obtain ⟨_, _, rfl, ⟨n, rfl, hn⟩, rfl⟩ := this
      exact ⟨n, rfl, wf_u64 hn⟩
    have key : ∀ rs : List (List Value), (∀ r ∈ rs, ∃ n, r = UC n ∧ 0 ≤ n ∧ n ≤ 18446744073709551615) → ∃ l : List Int, rs = l.map UC ∧ ∀ b ∈ l, 0 ≤ b ∧ b ≤ 18446744073709551615 := by
      intro rs
      induction rs with
      | nil => intro _; exact ⟨[], rfl, by simp⟩
      | cons r rs ih =>
        intro hr
        obtain ⟨n, rfl, hn⟩ := hr r (by simp)
        obtain ⟨l, rfl, hl⟩ := ih fun x hx => hr x (by simp [hx])
        exact ⟨n :: l, rfl, fun b hb => by rcases List.mem_cons.1 hb with rfl | hb; exact hn; exact hl b hb⟩
    obtain ⟨l, hl, hl2⟩ := key (rows.take len) fun r hr => g r (List.mem_of_mem_take hr)
    have hlen : l.length = len := by have := congrArg List.length hl; rw [List.length_take, List.length_map] at this; omega
    exact ⟨l, .inr ⟨b, 2 * cap, rows, true, by rw [List.length_map, hlen], h3, by rw [List.length_map, hlen]; exact hl⟩, hl2⟩
theorem isB_of {s : St} {v : Value} (h : Leaf.Is s (.sl [.b]) v) : ∃ l : List Bool, IsR s 1 v (l.map BC) := by
  unfold Leaf.Is at h
  rcases h with rfl | ⟨b, len, cap, rows, rfl, h1, h2, h3, h4, h5⟩
  · exact ⟨[], .nil⟩
  · have h3 : s.get b = some (.row 1 rows true) := h3
    have g : ∀ r ∈ rows, ∃ n, r = BC n := by
      intro r hr
      have := h5 r hr
      unfold Leaf.Are Leaf.Are Leaf.Is at this
      obtain ⟨_, _, rfl, ⟨n, rfl⟩, rfl⟩ := this
      exact ⟨n, rfl⟩
    have key : ∀ rs : List (List Value), (∀ r ∈ rs, ∃ n, r = BC n) → ∃ l : List Bool, rs = l.map BC := by
      intro rs
      induction rs with
      | nil => intro _; exact ⟨[], rfl⟩
      | cons r rs ih =>
        intro hr
        obtain ⟨n, rfl⟩ := hr r (by simp)
        obtain ⟨l, rfl⟩ := ih fun x hx => hr x (by simp [hx])
        exact ⟨n :: l, rfl⟩
    obtain ⟨l, hl⟩ := key (rows.take len) fun r hr => g r (List.mem_of_mem_take hr)
    have hlen : l.length = len := by have := congrArg List.length hl; rw [List.length_take, List.length_map] at this; omega
    exact ⟨l, .inr ⟨b, 2 * cap, rows, true, by rw [List.length_map, hlen], h3, by rw [List.length_map, hlen]; exact hl⟩⟩
theorem wld_awake_r (s : St) : leapfroglaw12x_awakeC.r s = some (.bool true) := rfl
/-- Settings of a search in a world. -/
structure OkS (W : Wd) (c : Cf) : Prop where
  C : okC c
  h : c.h = W.h
  tr : c.tr = 2
  b0 : 0 ≤ c.st.bt
  b1 : c.st.bt.toNat < 2 ^ W.h
  mem : c.st ∈ lst W c.st.ln c.st.bt
theorem okS_of {W : Wd} (hW : OkW W) {st : Rf} {t : Int} (hk : okK st.rk st.n) (hl : st.ln = W.h) (h0 : 0 ≤ st.bt) (h1 : st.bt.toNat < 2 ^ W.h) (hm : st ∈ lst W st.ln st.bt) : OkS W ⟨W.h, st, 2, t⟩ :=
  ⟨⟨by show (0 : Int) ≤ W.h; omega, by have := hW.h32; show (W.h : Int) ≤ 32; omega, hk, ⟨W.h, st.bt.toNat, hl, by show st.bt = _; omega, hW.h32, h1⟩, hl, .inl rfl, by show (2 : Int) ≠ 1; decide⟩, rfl, rfl, h0, h1, hm⟩
theorem okS_head {W : Wd} (hW : OkW W) (t : Int) : OkS W ⟨W.h, headR W.h, 2, t⟩ :=
  okS_of hW (.inr ⟨.inl rfl, rfl⟩) rfl (Int.le_refl _) (Nat.two_pow_pos _) (by simp [lst])
theorem okS_tail {W : Wd} (hW : OkW W) (t : Int) : OkS W ⟨W.h, tailR W.h, 2, t⟩ :=
  okS_of hW (.inr ⟨.inr rfl, rfl⟩) rfl (Int.le_refl _) (Nat.two_pow_pos _) (by simp [lst])
theorem okS_mem {W : Wd} (hW : OkW W) (t : Int) {x : Rf} (hx : x ∈ W.L) : OkS W ⟨W.h, x, 2, t⟩ := by
  obtain ⟨v1, v2, v3⟩ := hW.vec x hx
  have v4 : x.bt.toNat < 2 ^ W.h := by omega
  refine okS_of hW (.inl (hW.rk x hx)) v1 v2 v4 ?_
  have ho : okV x.ln x.bt := ⟨W.h, x.bt.toNat, v1, by omega, hW.h32, v4⟩
  unfold lst inL
  simp only [List.mem_cons, List.mem_append, List.mem_filter, decide_eq_true_eq]
  exact .inr (.inl ⟨hx, ho, ho, Int.le_refl _, by simp⟩)
theorem all_live {W : Wd} {c : Cf} {m : Mm} (hd : ∀ i, W.dead i = false) (h : FinW W c m) : m.n = 0 := by
  have : m.tab = [] := by
    cases ht : m.tab with
    | nil => rfl
    | cons e tl =>
      obtain ⟨p, r, q, _, _, g, _⟩ := h.tab.will e (by rw [ht]; simp)
      rw [hd] at g; cases g
  have h2 := h.tn
  rw [this] at h2
  simpa using h2.symm
theorem no_busy {W : Wd} {m : Mm} (hd : ∀ i, W.dead i = false) (h : BusyW W m) : False := by
  have := h.many
  unfold deadN at this
  rw [List.filter_eq_nil_iff.2 (by intro r _; simp [hd])] at this
  simp at this
theorem dead_nil (h : Nat) (ks bs : List Int) : ∀ i, (mkW h ks bs []).dead i = false := by
  intro i
  simp only [mkW, deadOf, mkD, List.getD_nil]
  rw [List.getD_eq_getElem?_getD, List.getElem?_map]
  cases (List.range (mkS ks).length)[(i - 2).toNat]? <;> simp
abbrev Z8 : List Value := [.int .i64 0, .int .i64 0, .int .i64 0, .int .u64 0, .int .i64 0, .int .u64 0, .int .i64 0, .int .u64 0]
theorem conf_row {s : St} (f : Fresh s) (X : List Value) (hX : X.length = 8) : ∃ s', stv (s.new (.row 8 [Z8] false)) 8 (P s.n) (.agg ⟨X⟩) = some s' ∧ s'.get s.n = some (.row 8 [X] false) ∧ More s s' ∧ Fresh s' := by
  have g : (s.new (.row 8 [Z8] false)).get s.n = some (.row 8 [Z8] false) := get_new_same
  refine ⟨(s.new (.row 8 [Z8] false)).put s.n (.row 8 [X] false), ?_, get_put_same g, More.new.put (Nat.le_refl _), f.new.put⟩
  rw [stv_row g, bx_agg, bds, if_pos hX]
  match X, hX with
  | [a, b, c, d, e, f, g, h], _ => rfl
theorem tmod_nat {a : Int} {k : Nat} (ha : 0 ≤ a) (hk : 0 < k) : ∃ n : Nat, a.tmod (k : Int) = (n : Int) ∧ n < k := by
  refine ⟨(a.tmod k).toNat, ?_, ?_⟩
  · have := Int.tmod_nonneg (k : Int) ha; omega
  · have := Int.tmod_nonneg (k : Int) ha
    have := Int.tmod_lt_of_pos a (show (0 : Int) < k by omega)
    omega
namespace SeekFinds
theorem finish {W : Wd} {ds : List Bool} {lv dv : Value} {c : Cf} {s : St} {cb : Nat} (h : WdAt W ds s lv dv) (f : Fresh s) (hd : ∀ i, W.dead i = false) (hS : OkS W c) (hrow : s.get cb = some (.row 8 [c.cs] false)) :
    ∃ m n s', leapfroglaw12x_World_play.v (WV W lv dv) (.agg ⟨c.cs⟩) s = some (.tuple ⟨[.agg ⟨stepC 3 zR zAsk m.res⟩, .int .i64 ((n : Nat) : Int)]⟩, s') ∧ FinW W c m ∧ (n : Int) ≤ 3 * ((W.L.length : Int) + 2) + 2 * (W.h : Int) ∧ s'.get cb = some (.row 8 [c.cs] false) ∧
      leapfroglaw12x_World_rightQ.r (WV W lv dv) (.agg ⟨stepC 3 zR zAsk m.res⟩) (KV c.tr c.tn) s' = some (.bool true) := by
  have n20 := h.n20
  have h32 := h.ok.h32
  have hmu := mu_w0 h.ok hS.tr hS.h hS.C.2.2.2.2.1 hS.mem
  obtain ⟨m, n, s', e, k, hr⟩ := play_r h f hS.C (inv_w0 h.ok hS.h hS.C.2.2.2.2.1 hS.b0 hS.mem (hd _) (.inr hd)) hS.tr hS.b1 hS.b0 (by omega)
  rcases hr with ⟨hF, hn⟩ | ⟨hB, _⟩
  · have h0 := all_live hd hF
    have hmo := mu_ov (W := W) (c := c) hF.ov
    obtain ⟨p, mid, q, sp, _⟩ := hF.sp
    have hap : m.ap ∈ lst W 0 0 := by rw [sp]; simp
    have r2 := rank_lt hap hF.lf lessK_irr hF.lf
    rw [h0] at hmo
    simp only [Int.toNat_zero] at hmo
    refine ⟨m, n, s', e, hF, by omega, k.row hrow (by simp), right_r (h.stp k (by simp) (by simp)) (k.2.2 f) hF⟩
  · exact (no_busy hd hB).elim
theorem law (s : St) (us : List Value) (ha : AllRo s) (hf : ∀ b, s.n ≤ b → s.get b = none) (h : Args s [(false, [.i .u8]), (false, [.sl [.i .u64]]), (false, [.sl [.i .u64]]), (false, [.i .u8]), (false, [.i .u64])] us) :
    ∃ s', leapfroglaw12x_SeekFinds.w us s = some (.bool true, s') := by
  simp only [Args, Arg, Leaf.Are] at h
  obtain ⟨a0, _, rfl, ⟨_, _, g0, h0, rfl⟩, a1, _, rfl, ⟨_, _, g1, h1, rfl⟩, a2, _, rfl, ⟨_, _, g2, h2, rfl⟩, a3, _, rfl, ⟨_, _, g3, h3, rfl⟩, a4, _, rfl, ⟨_, _, g4, h4, rfl⟩, rfl⟩ := h
  cases g0; cases g1; cases g2; cases g3; cases g4
  unfold Leaf.Is at h0 h3 h4
  obtain ⟨x0, rfl, w0⟩ := h0
  obtain ⟨x3, rfl, w3⟩ := h3
  obtain ⟨t, rfl, w4⟩ := h4
  have w0 := wf_u8 w0
  have w3 := wf_u8 w3
  have hf : Fresh s := hf
  obtain ⟨ks, hk, hk0⟩ := isU_of h1
  obtain ⟨bs, hb, hb0⟩ := isU_of h2
  obtain ⟨hh, e0, hh6⟩ := tmod_nat (k := 6) w0.1 (by omega)
  have e0 : x0.tmod 6 = (hh : Int) := e0
  obtain ⟨lv, dv, s1, q1, hA, m1, f1⟩ := make_r (h := hh) (dd := []) (dv := .slice none 0 0) (by omega) hk hb .nil (fun b hb' => (hb0 b hb').1) hf
  have hd := dead_nil hh ks bs
  have ec0 : IntKind.i64.wrap x0 = x0 := wrap64 (by omega) (by omega)
  have ec3 : IntKind.i64.wrap x3 = x3 := wrap64 (by omega) (by omega)
  have e6n : (6 : Int) ≠ 0 := by decide
  generalize mkD ks [] = ds at *
  generalize mkW hh ks bs [] = W at *
  have n20 := hA.n20
  have h32 := hA.ok.h32
  have hlen := hA.l.len
  rw [List.length_map] at hlen
  have ew : IntKind.i64.wrap ((W.L.length : Int) + 2) = (W.L.length : Int) + 2 := wrap64 (by omega) (by omega)
  have hnz : ((W.L.length : Int) + 2) ≠ 0 := by omega
  obtain ⟨kk, ek, hkk⟩ := tmod_nat (a := x3) (k := W.L.length + 2) w3.1 (by omega)
  have ek : x3.tmod ((W.L.length : Int) + 2) = (kk : Int) := by rw [← ek]; rfl
  have ehd := rhead_r W.h s1
  have eat := at_r t s1
  obtain ⟨sA, e8, g8, mA, fA⟩ := conf_row f1 (⟨W.h, headR W.h, 2, t⟩ : Cf).cs rfl
  simp only [headR] at e8 g8
  have wA := hA.more mA f1
  have ew3 : IntKind.i64.wrap (3 * ((W.L.length : Int) + 2)) = 3 * ((W.L.length : Int) + 2) := wrap64 (by omega) (by omega)
  have ewh : IntKind.i64.wrap (2 * (W.h : Int)) = 2 * (W.h : Int) := wrap64 (by omega) (by omega)
  have ews : IntKind.i64.wrap (3 * ((W.L.length : Int) + 2) + 2 * (W.h : Int)) = 3 * ((W.L.length : Int) + 2) + 2 * (W.h : Int) := wrap64 (by omega) (by omega)
  show ∃ s', leapfroglaw12x_SeekFinds.v (.int .u8 x0) a1 a2 (.int .u8 x3) (.int .u64 t) s = some (.bool true, s')
  by_cases hc1 : kk < W.L.length
  · have c1 : (kk : Int) < W.L.length := by omega
    obtain ⟨x, hx⟩ := get_some hc1
    obtain ⟨b2, all2, ro2, i1, i2, i3⟩ := wA.l.at (cs_get hx)
    have nb : b2 ≠ s1.n := by rintro rfl; rw [g8] at i2; simp at i2
    obtain ⟨sB, hsB⟩ : ∃ sB, sB = sA.put s1.n (.row 8 [(⟨W.h, x, 2, t⟩ : Cf).cs] false) := ⟨_, rfl⟩
    have e9 : stv sA 5 (.pointer (some ⟨s1.n, 0, some 1⟩)) (.agg ⟨x.cs⟩) = some sB := by rw [hsB]; simp only [stv_row g8, sy, reduceIte, Nat.reduceAdd, Nat.reduceLeDiff, Nat.reduceLT, Nat.reduceEqDiff, Int.reduceEq, Int.reduceLT, Int.reduceLE, Int.reduceNe, ly]
    have g9 : sB.get s1.n = some (.row 8 [(⟨W.h, x, 2, t⟩ : Cf).cs] false) := by rw [hsB]; exact get_put_same g8
    have kB : StpK [8] sA sB := by rw [hsB]; exact .put g8 (by simp [kd])
    obtain ⟨m, n, s2, p1, hF, p2, p3, p4⟩ := finish (wA.stp kB (by simp) (by simp)) (kB.2.2 fA) hd (okS_mem hA.ok t (List.mem_of_getElem? hx)) g9
    have he := eq_true hF.e
    refine ⟨s2, ?_⟩
    simp only [leapfroglaw12x_SeekFinds.v, leapfroglaw12x_SeekFinds.t, leapfroglaw12x_SeekFinds.t.p2, leapfroglaw12x_SeekFinds.t.p1, sy, reduceIte, Nat.reduceAdd, Nat.reduceLeDiff, Nat.reduceLT, Nat.reduceEqDiff, Int.reduceEq, Int.reduceLT, Int.reduceLE, Int.reduceNe, ly, wld_awake_r, ec0, bin_rem e6n, e0, q1, alv_eq, ehd, eat, headR, e8, ec3, hlen, ew, bin_rem hnz, ek, c1, i1, lda_row i2, i3, e9, lda_row g9, p1, he, lda_row p3, p4, ew3, ewh, ews, p2]
  · have c1 : ¬ ((kk : Int) < W.L.length) := by omega
    rcases Classical.propComplete ((kk : Int) = W.L.length) with c2 | c2
    · have etl := rtail_r W.h sA
      obtain ⟨sB, hsB⟩ : ∃ sB, sB = sA.put s1.n (.row 8 [(⟨W.h, tailR W.h, 2, t⟩ : Cf).cs] false) := ⟨_, rfl⟩
      have e9 : stv sA 5 (.pointer (some ⟨s1.n, 0, some 1⟩)) (.agg ⟨(tailR W.h).cs⟩) = some sB := by rw [hsB]; simp only [stv_row g8, sy, reduceIte, Nat.reduceAdd, Nat.reduceLeDiff, Nat.reduceLT, Nat.reduceEqDiff, Int.reduceEq, Int.reduceLT, Int.reduceLE, Int.reduceNe, ly]
      have g9 : sB.get s1.n = some (.row 8 [(⟨W.h, tailR W.h, 2, t⟩ : Cf).cs] false) := by rw [hsB]; exact get_put_same g8
      have kB : StpK [8] sA sB := by rw [hsB]; exact .put g8 (by simp [kd])
      obtain ⟨m, n, s2, p1, hF, p2, p3, p4⟩ := finish (wA.stp kB (by simp) (by simp)) (kB.2.2 fA) hd (okS_tail hA.ok t) g9
      have he := eq_true hF.e
      refine ⟨s2, ?_⟩
      simp only [tailR] at e9 g9 etl p1 p3
      simp only [leapfroglaw12x_SeekFinds.v, leapfroglaw12x_SeekFinds.t, leapfroglaw12x_SeekFinds.t.p2, leapfroglaw12x_SeekFinds.t.p1, sy, reduceIte, Nat.reduceAdd, Nat.reduceLeDiff, Nat.reduceLT, Nat.reduceEqDiff, Int.reduceEq, Int.reduceLT, Int.reduceLE, Int.reduceNe, ly, wld_awake_r, ec0, bin_rem e6n, e0, q1, alv_eq, ehd, eat, headR, e8, ec3, hlen, ew, bin_rem hnz, ek, c1, c2, etl, e9, lda_row g9, p1, he, lda_row p3, p4, ew3, ewh, ews, p2, Int.lt_irrefl]
    · obtain ⟨m, n, s2, p1, hF, p2, p3, p4⟩ := finish wA fA hd (okS_head hA.ok t) (by simp only [headR]; exact g8)
      have he := eq_true hF.e
      refine ⟨s2, ?_⟩
      simp only [headR] at p1 p3
      simp only [leapfroglaw12x_SeekFinds.v, leapfroglaw12x_SeekFinds.t, leapfroglaw12x_SeekFinds.t.p2, leapfroglaw12x_SeekFinds.t.p1, sy, reduceIte, Nat.reduceAdd, Nat.reduceLeDiff, Nat.reduceLT, Nat.reduceEqDiff, Int.reduceEq, Int.reduceLT, Int.reduceLE, Int.reduceNe, ly, wld_awake_r, ec0, bin_rem e6n, e0, q1, alv_eq, ehd, eat, headR, e8, ec3, hlen, ew, bin_rem hnz, ek, c1, c2, lda_row g8, p1, he, lda_row p3, p4, ew3, ewh, ews, p2]
end SeekFinds
end Go.Proofs.Ytonnegfkokghdaa
