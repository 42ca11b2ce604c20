/-
  SeekDead and SeekPasses, over abstract values.
-/
import Derived.Test.YtonnegfkokghdaaLWld
set_option linter.unusedSimpArgs false
set_option linter.unusedVariables false
set_option maxRecDepth 100000
set_option maxHeartbeats 2000000
namespace Go.Proofs.Ytonnegfkokghdaa
open Go.Sim Go.Sim.Bt
attribute [local congr] bdc cndc itec gdc gdSc gdUc

theorem deadN_mk (h : Nat) (ks bs : List Int) (dd : List Bool) : deadN (mkW h ks bs dd) = ((mkD ks dd).filter fun b => b).length := by
  unfold deadN mkW mkD
  simp only []
  rw [List.filter_map, List.length_map, List.filter_map, List.length_map]
  congr 1
  refine List.filter_congr ?_
  intro i hi
  rw [List.mem_range] at hi
  have key : ∀ D : List Bool, deadOf D (mkRf h bs (mkS ks) i).id = D.getD i false := by
    intro D
    show (decide ((2 : Int) ≤ (i : Int) + 2) && D.getD ((i : Int) + 2 - 2).toNat false) = _
    rw [decide_eq_true (by omega), Bool.true_and, show ((i : Int) + 2 - 2).toNat = i by omega]
  simp only [Function.comp]
  rw [key, List.getD_eq_getElem?_getD, List.getElem?_map, List.getElem?_range hi]
  rfl
theorem head_lt (c : Cf) (ht : c.tr = 2) (h : Int) (e : c.st = headR h) : lessK c.st.rk c.st.n c.tr c.tn := by
  rw [e, ht]; left; show (1 : Int) < 2; decide
theorem cnt_take {ds : List Bool} {i : Nat} {b : Bool} (h : ds[i]? = some b) : ((ds.take (i + 1)).filter fun b => b).length = ((ds.take i).filter fun b => b).length + (if b = true then 1 else 0) := by
  rw [List.take_add_one, h, List.filter_append, List.length_append]
  cases b <;> rfl
namespace SeekDead
theorem count_loop {W : Wd} {ds : List Bool} {lv dv : Value} {p : Value} {X : List Value} {s : St} (h : WdAt W ds s lv dv) :
    iter (leapfroglaw12x_SeekDead.l10 std) BIG [p, .int .i64 ((0 : Nat) : Int), .int .i64 ((0 : Nat) : Int), WV W lv dv, .agg ⟨X⟩] s = some ((0, [p, .int .i64 (((ds.filter fun b => b).length : Nat) : Int), WV W lv dv, .agg ⟨X⟩], s) : Cut) := by
  have hlen := h.d.len
  rw [List.length_map] at hlen
  have hn := h.dn
  have n20 := h.n20
  refine iter_rel (fun d xs s' => ∃ i, i + d = ds.length ∧ s' = s ∧ xs = [p, .int .i64 ((((ds.take i).filter fun b => b).length : Nat) : Int), .int .i64 (i : Int), WV W lv dv, .agg ⟨X⟩])
    (fun y : Option Cut => y = some ((0, [p, .int .i64 (((ds.filter fun b => b).length : Nat) : Int), WV W lv dv, .agg ⟨X⟩], s) : Cut)) ?_ BIG ds.length _ s (by unfold BIG; omega) ⟨0, by omega, rfl, rfl⟩
  rintro d xs s2 rec ⟨i, hi, rfl, rfl⟩ ih
  cases d with
  | zero =>
    have e1 : ¬ ((i : Int) < ds.length) := by omega
    rw [List.take_of_length_le (by omega)]
    simp only [leapfroglaw12x_SeekDead.l10, sy, reduceIte, Nat.reduceAdd, Nat.reduceLeDiff, Nat.reduceLT, Nat.reduceEqDiff, Int.reduceEq, Int.reduceLT, Int.reduceLE, Int.reduceNe, ly, hlen, e1]
  | succ d =>
    have e1 : (i : Int) < ds.length := by omega
    obtain ⟨b, hb⟩ := get_some (l := ds) (j := i) (by omega)
    have e5 : IntKind.i64.wrap ((i : Int) + 1) = ((i + 1 : Nat) : Int) := by rw [wrap64 (by omega) (by omega)]; omega
    obtain ⟨b2, all2, ro2, c1, c2, c3⟩ := h.d.at (ds_get hb)
    have hct := cnt_take hb
    have hle : ((ds.take i).filter fun b => b).length ≤ 20 := by have := List.length_filter_le (fun b => b) (ds.take i); rw [List.length_take] at this; omega
    generalize ((ds.take i).filter fun b => b).length = cc at *
    have e6 : IntKind.i64.wrap ((cc : Int) + 1) = ((cc + 1 : Nat) : Int) := by rw [wrap64 (by omega) (by omega)]; omega
    cases b with
    | true =>
      have fin : leapfroglaw12x_SeekDead.l10 std rec [p, .int .i64 (cc : Int), .int .i64 (i : Int), WV W lv dv, .agg ⟨X⟩] s2 = rec [p, .int .i64 ((cc + 1 : Nat) : Int), .int .i64 ((i + 1 : Nat) : Int), WV W lv dv, .agg ⟨X⟩] s2 := by
        simp only [leapfroglaw12x_SeekDead.l10, sy, reduceIte, Nat.reduceAdd, Nat.reduceLeDiff, Nat.reduceLT, Nat.reduceEqDiff, Int.reduceEq, Int.reduceLT, Int.reduceLE, Int.reduceNe, ly, hlen, e1, c1, ldc_row c2, c3, e5, e6]
      rw [fin]
      exact ih d _ _ (by omega) ⟨i + 1, by omega, rfl, by rw [hct]; rfl⟩
    | false =>
      have fin : leapfroglaw12x_SeekDead.l10 std rec [p, .int .i64 (cc : Int), .int .i64 (i : Int), WV W lv dv, .agg ⟨X⟩] s2 = rec [p, .int .i64 (cc : Int), .int .i64 ((i + 1 : Nat) : Int), WV W lv dv, .agg ⟨X⟩] s2 := by
        simp only [leapfroglaw12x_SeekDead.l10, sy, reduceIte, Nat.reduceAdd, Nat.reduceLeDiff, Nat.reduceLT, Nat.reduceEqDiff, Int.reduceEq, Int.reduceLT, Int.reduceLE, Int.reduceNe, ly, hlen, e1, c1, ldc_row c2, c3, e5]
      rw [fin]
      exact ih d _ _ (by omega) ⟨i + 1, by omega, rfl, by rw [hct]; rfl⟩
theorem law (s : St) (us : List Value) (ha : AllRo s) (hf : ∀ b, s.n ≤ b → s.get b = none) (h : Args s [(false, [.i .u8]), (false, [.sl [.i .u64]]), (false, [.sl [.i .u64]]), (false, [.sl [.b]]), (false, [.i .u64])] us) :
    ∃ s', leapfroglaw12x_SeekDead.w us s = some (.bool true, s') := by
  simp only [Args, Arg, Leaf.Are] at h
  obtain ⟨a0, _, rfl, ⟨_, _, g0, h0, rfl⟩, a1, _, rfl, ⟨_, _, g1, h1, rfl⟩, a2, _, rfl, ⟨_, _, g2, h2, rfl⟩, a3, _, rfl, ⟨_, _, g3, h3, rfl⟩, a4, _, rfl, ⟨_, _, g4, h4, rfl⟩, rfl⟩ := h
  cases g0; cases g1; cases g2; cases g3; cases g4
  unfold Leaf.Is at h0 h4
  obtain ⟨x0, rfl, w0⟩ := h0
  obtain ⟨t, rfl, w4⟩ := h4
  have w0 := wf_u8 w0
  have hf : Fresh s := hf
  obtain ⟨ks, hk, hk0⟩ := isU_of h1
  obtain ⟨bs, hb, hb0⟩ := isU_of h2
  obtain ⟨dd, hd⟩ := isB_of h3
  obtain ⟨hh, e0, hh6⟩ := tmod_nat (k := 6) w0.1 (by omega)
  have e0 : x0.tmod 6 = (hh : Int) := e0
  obtain ⟨lv, dv, s1, q1, hA, m1, f1⟩ := make_r (h := hh) (by omega) hk hb hd (fun b hb' => (hb0 b hb').1) hf
  have ec0 : IntKind.i64.wrap x0 = x0 := wrap64 (by omega) (by omega)
  have e6n : (6 : Int) ≠ 0 := by decide
  have hdn := deadN_mk hh ks bs dd
  have hWh : (mkW hh ks bs dd).h = hh := rfl
  generalize mkD ks dd = ds at *
  generalize mkW hh ks bs dd = W at *
  have n20 := hA.n20
  have h32 := hA.ok.h32
  have ehd := rhead_r W.h s1
  have eat := at_r t s1
  obtain ⟨sA, e8, g8, mA, fA⟩ := conf_row f1 (⟨W.h, headR W.h, 2, t⟩ : Cf).cs rfl
  have wA := hA.more mA f1
  have hS := okS_head hA.ok t
  have hmu := mu_w0 hA.ok hS.tr hS.h hS.C.2.2.2.2.1 hS.mem
  obtain ⟨m, n, s2, p1, k, hr⟩ := play_r wA fA hS.C (inv_w0 hA.ok hS.h hS.C.2.2.2.2.1 hS.b0 hS.mem hA.ok.hd (.inl (head_lt _ hS.tr W.h rfl))) hS.tr hS.b1 hS.b0 (by omega)
  have w2 := wA.stp k (by simp) (by simp)
  have f2 := k.2.2 fA
  have g2 := k.row g8 (by simp)
  have cl := count_loop (p := P s1.n) (X := stepC 3 zR zAsk m.res) w2
  rw [← hdn] at cl
  have hdle : deadN W ≤ 20 := by unfold deadN; have := List.length_filter_le (fun r : Rf => W.dead r.id) W.L; omega
  have hmany : ∀ hB : BusyW W m, 65 ≤ deadN W * (W.h + 1) := fun hB => hB.many
  generalize deadN W = dn at *
  have eh1 : IntKind.i64.wrap ((W.h : Int) + 1) = (W.h : Int) + 1 := wrap64 (by omega) (by omega)
  have hmul : ((dn : Int) * ((W.h : Int) + 1)) = ((dn * (W.h + 1) : Nat) : Int) := by simp
  have hml : dn * (W.h + 1) ≤ 20 * 33 := Nat.mul_le_mul hdle (by omega)
  have emu : IntKind.i64.wrap ((dn : Int) * ((W.h : Int) + 1)) = ((dn * (W.h + 1) : Nat) : Int) := by rw [hmul, wrap64 (by omega) (by omega)]
  rw [show ((0 : Nat) : Int) = 0 from rfl] at cl
  simp only [headR] at e8 g8 p1 g2
  show ∃ s', leapfroglaw12x_SeekDead.v (.int .u8 x0) a1 a2 a3 (.int .u64 t) s = some (.bool true, s')
  rcases hr with ⟨hF, _⟩ | ⟨hB, _⟩
  · have rr := right_r w2 f2 hF
    have heT := eq_true hF.e
    have heF : (m.res.e = 121) = False := eq_false (by rw [hF.e]; decide)
    exact ⟨s2, by simp only [leapfroglaw12x_SeekDead.v, leapfroglaw12x_SeekDead.t, leapfroglaw12x_SeekDead.t.p2, leapfroglaw12x_SeekDead.t.p1, sy, reduceIte, Nat.reduceAdd, Nat.reduceLeDiff, Nat.reduceLT, Nat.reduceEqDiff, Int.reduceEq, Int.reduceLT, Int.reduceLE, Int.reduceNe, ly, wld_awake_r, ec0, bin_rem e6n, e0, q1, alv_eq, ehd, eat, headR, e8, lda_row g8, p1, cl, heT, heF, lda_row g2, rr]⟩
  · have heT : (m.res.e = 121) = True := eq_true hB.e
    have hmany := hmany hB
    have hbig : ((64 : Int) < ((dn * (W.h + 1) : Nat) : Int)) := by omega
    exact ⟨s2, by simp only [leapfroglaw12x_SeekDead.v, leapfroglaw12x_SeekDead.t, leapfroglaw12x_SeekDead.t.p2, leapfroglaw12x_SeekDead.t.p1, sy, reduceIte, Nat.reduceAdd, Nat.reduceLeDiff, Nat.reduceLT, Nat.reduceEqDiff, Int.reduceEq, Int.reduceLT, Int.reduceLE, Int.reduceNe, ly, wld_awake_r, ec0, bin_rem e6n, e0, q1, alv_eq, ehd, eat, headR, e8, lda_row g8, p1, cl, heT, eh1, emu, hbig]⟩
end SeekDead
namespace SeekPasses
theorem count_loop {W : Wd} {ds : List Bool} {lv dv : Value} {p : Value} {s : St} (h : WdAt W ds s lv dv) :
    iter (leapfroglaw12x_SeekPasses.l6 std) BIG [p, .int .i64 ((0 : Nat) : Int), .int .i64 ((0 : Nat) : Int), WV W lv dv] s = some ((0, [p, .int .i64 (((ds.filter fun b => b).length : Nat) : Int), WV W lv dv], s) : Cut) := by
  have hlen := h.d.len
  rw [List.length_map] at hlen
  have hn := h.dn
  have n20 := h.n20
  refine iter_rel (fun d xs s' => ∃ i, i + d = ds.length ∧ s' = s ∧ xs = [p, .int .i64 ((((ds.take i).filter fun b => b).length : Nat) : Int), .int .i64 (i : Int), WV W lv dv])
    (fun y : Option Cut => y = some ((0, [p, .int .i64 (((ds.filter fun b => b).length : Nat) : Int), WV W lv dv], s) : Cut)) ?_ BIG ds.length _ s (by unfold BIG; omega) ⟨0, by omega, rfl, rfl⟩
  rintro d xs s2 rec ⟨i, hi, rfl, rfl⟩ ih
  cases d with
  | zero =>
    have e1 : ¬ ((i : Int) < ds.length) := by omega
    rw [List.take_of_length_le (by omega)]
    simp only [leapfroglaw12x_SeekPasses.l6, sy, reduceIte, Nat.reduceAdd, Nat.reduceLeDiff, Nat.reduceLT, Nat.reduceEqDiff, Int.reduceEq, Int.reduceLT, Int.reduceLE, Int.reduceNe, ly, hlen, e1]
  | succ d =>
    have e1 : (i : Int) < ds.length := by omega
    obtain ⟨b, hb⟩ := get_some (l := ds) (j := i) (by omega)
    have e5 : IntKind.i64.wrap ((i : Int) + 1) = ((i + 1 : Nat) : Int) := by rw [wrap64 (by omega) (by omega)]; omega
    obtain ⟨b2, all2, ro2, c1, c2, c3⟩ := h.d.at (ds_get hb)
    have hct := cnt_take hb
    have hle : ((ds.take i).filter fun b => b).length ≤ 20 := by have := List.length_filter_le (fun b => b) (ds.take i); rw [List.length_take] at this; omega
    generalize ((ds.take i).filter fun b => b).length = cc at *
    have e6 : IntKind.i64.wrap ((cc : Int) + 1) = ((cc + 1 : Nat) : Int) := by rw [wrap64 (by omega) (by omega)]; omega
    cases b with
    | true =>
      have fin : leapfroglaw12x_SeekPasses.l6 std rec [p, .int .i64 (cc : Int), .int .i64 (i : Int), WV W lv dv] s2 = rec [p, .int .i64 ((cc + 1 : Nat) : Int), .int .i64 ((i + 1 : Nat) : Int), WV W lv dv] s2 := by
        simp only [leapfroglaw12x_SeekPasses.l6, sy, reduceIte, Nat.reduceAdd, Nat.reduceLeDiff, Nat.reduceLT, Nat.reduceEqDiff, Int.reduceEq, Int.reduceLT, Int.reduceLE, Int.reduceNe, ly, hlen, e1, c1, ldc_row c2, c3, e5, e6]
      rw [fin]
      exact ih d _ _ (by omega) ⟨i + 1, by omega, rfl, by rw [hct]; rfl⟩
    | false =>
      have fin : leapfroglaw12x_SeekPasses.l6 std rec [p, .int .i64 (cc : Int), .int .i64 (i : Int), WV W lv dv] s2 = rec [p, .int .i64 (cc : Int), .int .i64 ((i + 1 : Nat) : Int), WV W lv dv] s2 := by
        simp only [leapfroglaw12x_SeekPasses.l6, sy, reduceIte, Nat.reduceAdd, Nat.reduceLeDiff, Nat.reduceLT, Nat.reduceEqDiff, Int.reduceEq, Int.reduceLT, Int.reduceLE, Int.reduceNe, ly, hlen, e1, c1, ldc_row c2, c3, e5]
      rw [fin]
      exact ih d _ _ (by omega) ⟨i + 1, by omega, rfl, by rw [hct]; rfl⟩
theorem loop {W : Wd} {ds : List Bool} {lv dv : Value} {c : Cf} {s : St} {b q : Nat} (h : WdAt W ds s lv dv) (f : Fresh s) (hA : At c (m0 c) s b q) (hI : InvW W c (m0 c)) (ht : c.tr = 2) (hb : c.st.bt.toNat < 2 ^ W.h) (hmu : muW W c (m0 c) ≤ 10000) (hd20 : deadN W ≤ 20) :
    ∃ s', iter (leapfroglaw12x_SeekPasses.l14 std) BIG [.int .u64 c.tn, .int .i64 ((deadN W : Nat) : Int), P b, .int .i64 ((0 : Nat) : Int), WV W lv dv] s = some ((1, [.bool true], s') : Cut) := by
  have h32 := h.ok.h32
  refine iter_rel (fun d xs s' => ∃ m n, At c m s' b q ∧ WdAt W ds s' lv dv ∧ Fresh s' ∧ xs = [.int .u64 c.tn, .int .i64 ((deadN W : Nat) : Int), P b, .int .i64 ((n : Nat) : Int), WV W lv dv] ∧ n + d ≤ 10001 ∧
      ((InvW W c m ∧ d = muW W c m + 1) ∨ (FinW W c m ∧ d = muW W c m + 1) ∨ BusyW W m))
    (fun y : Option Cut => ∃ s', y = some ((1, [.bool true], s') : Cut)) ?_ BIG (muW W c (m0 c) + 1) _ s (by unfold BIG; omega) ⟨m0 c, 0, hA, h, f, rfl, by omega, .inl ⟨hI, rfl⟩⟩
  rintro d xs s2 rec ⟨m, n, hA2, h2, f2, rfl, hd, hx⟩ ih
  have e1 : ((n : Nat) : Int) < 20000 := by omega
  have n1 := next_r hA2
  have e5 : IntKind.i64.wrap (((n : Nat) : Int) + 1) = ((n + 1 : Nat) : Int) := by rw [wrap64 (by omega) (by omega)]; omega
  rcases hx with ⟨hI2, hdm⟩ | ⟨hF, hdm⟩ | hB
  · rw [next_go hI2.ov] at n1
    obtain ⟨m', s3, s4, a1, a2, hA4, h4, f4, k4, hres⟩ := ask_w h2 f2 hA2 hI2 ht hb
    generalize ansW W (curF m).id m.wl m.wb = aw at *
    have fin : leapfroglaw12x_SeekPasses.l14 std rec [.int .u64 c.tn, .int .i64 ((deadN W : Nat) : Int), P b, .int .i64 ((n : Nat) : Int), WV W lv dv] s2 = rec [.int .u64 c.tn, .int .i64 ((deadN W : Nat) : Int), P b, .int .i64 ((n + 1 : Nat) : Int), WV W lv dv] s4 := by
      simp only [leapfroglaw12x_SeekPasses.l14, leapfroglaw12x_SeekPasses.l14.p1, sy, reduceIte, Nat.reduceAdd, Nat.reduceLeDiff, Nat.reduceLT, Nat.reduceEqDiff, Int.reduceEq, Int.reduceLT, Int.reduceLE, Int.reduceNe, ly, e1, n1, a1, a2, e5]
    rw [fin]
    rcases hres with ⟨hi | hi, hlt⟩ | hi
    · exact ih (muW W c m' + 1) _ _ (by omega) ⟨m', n + 1, hA4, h4, f4, rfl, by omega, .inl ⟨hi, rfl⟩⟩
    · exact ih (muW W c m' + 1) _ _ (by omega) ⟨m', n + 1, hA4, h4, f4, rfl, by omega, .inr (.inl ⟨hi, rfl⟩)⟩
    · exact ih (muW W c m) _ _ (by omega) ⟨m', n + 1, hA4, h4, f4, rfl, by omega, .inr (.inr hi)⟩
  · rw [next_ov hF.ov] at n1
    have heT := eq_true hF.e
    have hg := gone_r h2 m.res.r.id
    cases hdd : W.dead m.res.r.id with
    | false =>
      rw [hdd] at hg
      have rr := right_r h2 f2 hF
      have eat := at_r c.tn s2
      rw [ht] at rr
      exact ⟨s2, by simp only [leapfroglaw12x_SeekPasses.l14, leapfroglaw12x_SeekPasses.l14.p1, sy, reduceIte, Nat.reduceAdd, Nat.reduceLeDiff, Nat.reduceLT, Nat.reduceEqDiff, Int.reduceEq, Int.reduceLT, Int.reduceLE, Int.reduceNe, ly, e1, n1, heT, hg, eat, rr]⟩
    | true =>
      rw [hdd] at hg
      obtain ⟨s3, a1, m3, f3⟩ := answer_r (wl := 0) (wb := 0) (to := m.res.r) h2 f2 (Int.le_refl _)
      have k3 : StpK [] s2 s3 := .more m3 f2
      obtain ⟨s4, a2, hA4, st4⟩ := dead_f (hA2.stp k3 (by simp) (by simp)) hF.n0 (ansW W m.res.r.id 0 0)
      have k4 := Stq.stp (hA2.stp k3 (by simp) (by simp)) st4
      have h4 := (h2.more m3 f2).stp k4 (by simp) (by simp)
      have f4 := k4.2.2 f3
      have e4 : bld [Value.int .i64 0, .int .u64 0] [] = some (VI 0 0) := rfl
      have hres := dead_w h2.ok ht hb hF hdd
      generalize ansW W m.res.r.id 0 0 = aw at *
      have fin : leapfroglaw12x_SeekPasses.l14 std rec [.int .u64 c.tn, .int .i64 ((deadN W : Nat) : Int), P b, .int .i64 ((n : Nat) : Int), WV W lv dv] s2 = rec [.int .u64 c.tn, .int .i64 ((deadN W : Nat) : Int), P b, .int .i64 ((n + 1 : Nat) : Int), WV W lv dv] s4 := by
        simp only [leapfroglaw12x_SeekPasses.l14, leapfroglaw12x_SeekPasses.l14.p1, sy, reduceIte, Nat.reduceAdd, Nat.reduceLeDiff, Nat.reduceLT, Nat.reduceEqDiff, Int.reduceEq, Int.reduceLT, Int.reduceLE, Int.reduceNe, ly, e1, n1, heT, hg, a1, a2, e5]
      rw [fin]
      rcases hres with ⟨hi, hlt⟩ | hi
      · exact ih (muW W c (deadF m aw) + 1) _ _ (by omega) ⟨_, n + 1, hA4, h4, f4, rfl, by omega, .inl ⟨hi, rfl⟩⟩
      · exact ih (muW W c m) _ _ (by omega) ⟨_, n + 1, hA4, h4, f4, rfl, by omega, .inr (.inr hi)⟩
  · rw [next_ov hB.ov] at n1
    have heF : (m.res.e = 0) = False := eq_false (by rw [hB.e]; decide)
    have heT : (m.res.e = 121) = True := eq_true hB.e
    have hmany := hB.many
    generalize deadN W = dn at *
    have eh1 : IntKind.i64.wrap ((W.h : Int) + 2) = (W.h : Int) + 2 := wrap64 (by omega) (by omega)
    have hmul : ((dn : Int) * ((W.h : Int) + 2)) = ((dn * (W.h + 2) : Nat) : Int) := by simp
    have hml : dn * (W.h + 2) ≤ 20 * 34 := Nat.mul_le_mul hd20 (by omega)
    have hml2 : dn * (W.h + 1) ≤ dn * (W.h + 2) := Nat.mul_le_mul (Nat.le_refl _) (by omega)
    have emu : IntKind.i64.wrap ((dn : Int) * ((W.h : Int) + 2)) = ((dn * (W.h + 2) : Nat) : Int) := by rw [hmul, wrap64 (by omega) (by omega)]
    have hbig : ((64 : Int) < ((dn * (W.h + 2) : Nat) : Int)) := by omega
    exact ⟨s2, by simp only [leapfroglaw12x_SeekPasses.l14, leapfroglaw12x_SeekPasses.l14.p1, sy, reduceIte, Nat.reduceAdd, Nat.reduceLeDiff, Nat.reduceLT, Nat.reduceEqDiff, Int.reduceEq, Int.reduceLT, Int.reduceLE, Int.reduceNe, ly, e1, n1, heF, heT, eh1, emu, hbig]⟩
theorem law (s : St) (us : List Value) (ha : AllRo s) (hf : ∀ b, s.n ≤ b → s.get b = none) (h : Args s [(false, [.i .u8]), (false, [.sl [.i .u64]]), (false, [.sl [.i .u64]]), (false, [.sl [.b]]), (false, [.i .u64])] us) :
    ∃ s', leapfroglaw12x_SeekPasses.w us s = some (.bool true, s') := by
  simp only [Args, Arg, Leaf.Are] at h
  obtain ⟨a0, _, rfl, ⟨_, _, g0, h0, rfl⟩, a1, _, rfl, ⟨_, _, g1, h1, rfl⟩, a2, _, rfl, ⟨_, _, g2, h2, rfl⟩, a3, _, rfl, ⟨_, _, g3, h3, rfl⟩, a4, _, rfl, ⟨_, _, g4, h4, rfl⟩, rfl⟩ := h
  cases g0; cases g1; cases g2; cases g3; cases g4
  unfold Leaf.Is at h0 h4
  obtain ⟨x0, rfl, w0⟩ := h0
  obtain ⟨t, rfl, w4⟩ := h4
  have w0 := wf_u8 w0
  have hf : Fresh s := hf
  obtain ⟨ks, hk, hk0⟩ := isU_of h1
  obtain ⟨bs, hb, hb0⟩ := isU_of h2
  obtain ⟨dd, hd⟩ := isB_of h3
  obtain ⟨hh, e0, hh6⟩ := tmod_nat (k := 4) w0.1 (by omega)
  have e0 : x0.tmod 4 = (hh : Int) := e0
  obtain ⟨lv, dv, s1, q1, hA, m1, f1⟩ := make_r (h := hh) (by omega) hk hb hd (fun b hb' => (hb0 b hb').1) hf
  have ec0 : IntKind.i64.wrap x0 = x0 := wrap64 (by omega) (by omega)
  have e6n : (4 : Int) ≠ 0 := by decide
  have hdn := deadN_mk hh ks bs dd
  generalize mkD ks dd = ds at *
  generalize mkW hh ks bs dd = W at *
  have n20 := hA.n20
  have h32 := hA.ok.h32
  have ehd := rhead_r W.h s1
  have eat := at_r t s1
  have hS := okS_head hA.ok t
  have hmu := mu_w0 hA.ok hS.tr hS.h hS.C.2.2.2.2.1 hS.mem
  have cl := count_loop (p := .int .u64 t) hA
  rw [← hdn] at cl
  rw [show ((0 : Nat) : Int) = 0 from rfl] at cl
  have hdle : deadN W ≤ 20 := by unfold deadN; have := List.length_filter_le (fun r : Rf => W.dead r.id) W.L; omega
  rcases new_r f1 (⟨W.h, headR W.h, 2, t⟩ : Cf) hS.b0 with ⟨g, _⟩ | ⟨_, q2⟩
  · exact absurd hS.C g
  have hA2 := at_new f1 (⟨W.h, headR W.h, 2, t⟩ : Cf)
  have mo : More s1 (N2 s1 (⟨W.h, headR W.h, 2, t⟩ : Cf)) := More.new.trans .new
  have f2 := mo.fresh f1
  have w2 := hA.more mo f1
  generalize N2 s1 (⟨W.h, headR W.h, 2, t⟩ : Cf) = s2 at *
  obtain ⟨s3, e3⟩ := loop w2 f2 hA2 (inv_w0 hA.ok hS.h hS.C.2.2.2.2.1 hS.b0 hS.mem hA.ok.hd (.inl (head_lt _ hS.tr W.h rfl))) hS.tr hS.b1 (by omega) hdle
  rw [show ((0 : Nat) : Int) = 0 from rfl] at e3
  simp only [headR] at q2
  show ∃ s', leapfroglaw12x_SeekPasses.v (.int .u8 x0) a1 a2 a3 (.int .u64 t) s = some (.bool true, s')
  exact ⟨s3, by simp only [leapfroglaw12x_SeekPasses.v, leapfroglaw12x_SeekPasses.t, sy, reduceIte, Nat.reduceAdd, Nat.reduceLeDiff, Nat.reduceLT, Nat.reduceEqDiff, Int.reduceEq, Int.reduceLT, Int.reduceLE, Int.reduceNe, ly, wld_awake_r, ec0, bin_rem e6n, e0, q1, cl, ehd, eat, headR, q2, e3, Nat.one_ne_zero]⟩
end SeekPasses
end Go.Proofs.Ytonnegfkokghdaa
