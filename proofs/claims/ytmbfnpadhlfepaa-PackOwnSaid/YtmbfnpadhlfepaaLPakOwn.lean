/-
  PackOwn, over abstract values.
-/
import Derived.Test.YtmbfnpadhlfepaaPaqD
set_option linter.unusedSimpArgs false
set_option linter.unusedVariables false
set_option maxRecDepth 100000
set_option maxHeartbeats 4000000
namespace Go.Proofs.Ytmbfnpadhlfepaa
open Go.Sim Go.Sim.Bt
attribute [local congr] bdc cndc itec gdc gdSc gdUc
namespace PackOwn

theorem un_xor (y : Int) : ∃ z : Int, un .xor (.int .u8 y) = some (.int .u8 z) := ⟨_, rfl⟩
theorem loop9 {a b y : Value} {c len e0 : Nat} (hl : len ≤ 1000000000) : ∀ (d j : Nat), j + d = len → ∀ {s : St} {l : List Int}, l.length = len → s.get c = some (.row 1 (br l) false) → Fresh s →
    ∃ s', (∀ e, iter (leapfroglaw03x_PackOwn.l9 std) (e + d + 1) [a, b, .slice (some ⟨c, 0, some 0⟩) len e0, y, .int .i64 (j : Int)] s = some (0, [a, b, y], s')) ∧ Fresh s' ∧ s'.n = s.n ∧ ∀ x, x ≠ c → s'.get x = s.get x
  | 0, j, hj, s, l, hll, hg, hf => by
    have : j = len := by omega
    subst this
    refine ⟨s, fun e => ?_, hf, rfl, fun _ _ => rfl⟩
    have hlen : lenL (.slice (some ⟨c, 0, some 0⟩) j e0) = some (.int .i64 (j : Int)) := rfl
    have lt1 : bin .lss (.int .i64 (j : Int)) (.int .i64 (j : Int)) = some (.bool false) := by
      rw [bin_lss, decide_eq_false (by omega)]
    rw [iter_succ]
    unfold leapfroglaw03x_PackOwn.l9
    simp only [std_bd, std_cnd, List.getD_cons_zero, List.getD_cons_succ, hlen, lt1, bds, cnd]
  | d + 1, j, hj, s, l, hll, hg, hf => by
    have hlen : lenL (.slice (some ⟨c, 0, some 0⟩) len e0) = some (.int .i64 (len : Int)) := rfl
    have lt0 : bin .lss (.int .i64 (j : Int)) (.int .i64 (len : Int)) = some (.bool true) := by
      rw [bin_lss, decide_eq_true (by omega)]
    have add0 : bin .add (.int .i64 (j : Int)) (.int .i64 1) = some (.int .i64 ((j + 1 : Nat) : Int)) := by
      rw [bin_add, wrap64 (by omega) (by omega)]; rfl
    obtain ⟨v, hv⟩ := get_some (l := l) (j := j) (by omega)
    obtain ⟨z, hz⟩ := un_xor v
    have hbj : (br l)[j]? = some [.int .u8 v] := by simp [br, hv, u8]
    have hi : idx s 1 (.slice (some ⟨c, 0, some 0⟩) len e0) (.int .i64 (j : Int)) = some (.pointer (some ⟨c, j, some 0⟩)) := by
      have := idx_row (k := .i64) (i := 0) (n := (j : Int)) (len := len) (e := e0) hg (by omega) (by omega)
      rwa [Int.toNat_natCast, Nat.zero_add] at this
    have hd : ldc s (.pointer (some ⟨c, j, some 0⟩)) = some (.int .u8 v) := by rw [ldc_row hg, hbj]; rfl
    have hset : (br l).set j [.int .u8 z] = br (l.set j z) := by simp [br, u8, List.map_set]
    have hw : stv s 1 (.pointer (some ⟨c, j, some 0⟩)) (.int .u8 z) = some (s.put c (.row 1 (br (l.set j z)) false)) := by
      rw [stv_row hg, bx_int, bds, ← hset, hbj]; rfl
    have hg2 : (s.put c (.row 1 (br (l.set j z)) false)).get c = some (.row 1 (br (l.set j z)) false) := get_put_same hg
    have ho : ∀ x, x ≠ c → (s.put c (.row 1 (br (l.set j z)) false)).get x = s.get x := fun x hx => get_put_ne hx
    have hf2 : Fresh (s.put c (.row 1 (br (l.set j z)) false)) := hf.put
    have hn2 : (s.put c (.row 1 (br (l.set j z)) false)).n = s.n := rfl
    generalize s.put c (.row 1 (br (l.set j z)) false) = s1 at *
    obtain ⟨s', g1, g2, g3, g4⟩ := loop9 (a := a) (b := b) (y := y) (e0 := e0) hl d (j + 1) (by omega) (l := l.set j z) (by simp [hll]) hg2 hf2
    refine ⟨s', fun e => ?_, g2, g3.trans hn2, fun x hx => (g4 x hx).trans (ho x hx)⟩
    have g := g1 e
    rw [show e + (d + 1) + 1 = (e + d + 1) + 1 by omega, iter_succ]
    revert g
    generalize iter (leapfroglaw03x_PackOwn.l9 std) (e + d + 1) = R
    intro g
    unfold leapfroglaw03x_PackOwn.l9
    simp only [std_bd, std_cnd, List.getD_cons_zero, List.getD_cons_succ, hlen, lt0, hi, hd, hz, hw, add0, bds, cnd]
    exact g
theorem loop13 {a y : Value} {c len e0 : Nat} (hl : len ≤ 1000000000) : ∀ (d j : Nat), j + d = len → ∀ {s : St} {l : List Int}, l.length = len → s.get c = some (.row 1 (br l) false) → Fresh s →
    ∃ s', (∀ e, iter (leapfroglaw03x_PackOwn.l13 std) (e + d + 1) [a, .slice (some ⟨c, 0, some 0⟩) len e0, y, .int .i64 (j : Int)] s = some (0, [a, y], s')) ∧ Fresh s' ∧ s'.n = s.n ∧ ∀ x, x ≠ c → s'.get x = s.get x
  | 0, j, hj, s, l, hll, hg, hf => by
    have : j = len := by omega
    subst this
    refine ⟨s, fun e => ?_, hf, rfl, fun _ _ => rfl⟩
    have hlen : lenL (.slice (some ⟨c, 0, some 0⟩) j e0) = some (.int .i64 (j : Int)) := rfl
    have lt1 : bin .lss (.int .i64 (j : Int)) (.int .i64 (j : Int)) = some (.bool false) := by
      rw [bin_lss, decide_eq_false (by omega)]
    rw [iter_succ]
    unfold leapfroglaw03x_PackOwn.l13
    simp only [std_bd, std_cnd, List.getD_cons_zero, List.getD_cons_succ, hlen, lt1, bds, cnd]
  | d + 1, j, hj, s, l, hll, hg, hf => by
    have hlen : lenL (.slice (some ⟨c, 0, some 0⟩) len e0) = some (.int .i64 (len : Int)) := rfl
    have lt0 : bin .lss (.int .i64 (j : Int)) (.int .i64 (len : Int)) = some (.bool true) := by
      rw [bin_lss, decide_eq_true (by omega)]
    have add0 : bin .add (.int .i64 (j : Int)) (.int .i64 1) = some (.int .i64 ((j + 1 : Nat) : Int)) := by
      rw [bin_add, wrap64 (by omega) (by omega)]; rfl
    obtain ⟨v, hv⟩ := get_some (l := l) (j := j) (by omega)
    obtain ⟨z, hz⟩ := un_xor v
    have hbj : (br l)[j]? = some [.int .u8 v] := by simp [br, hv, u8]
    have hi : idx s 1 (.slice (some ⟨c, 0, some 0⟩) len e0) (.int .i64 (j : Int)) = some (.pointer (some ⟨c, j, some 0⟩)) := by
      have := idx_row (k := .i64) (i := 0) (n := (j : Int)) (len := len) (e := e0) hg (by omega) (by omega)
      rwa [Int.toNat_natCast, Nat.zero_add] at this
    have hd : ldc s (.pointer (some ⟨c, j, some 0⟩)) = some (.int .u8 v) := by rw [ldc_row hg, hbj]; rfl
    have hset : (br l).set j [.int .u8 z] = br (l.set j z) := by simp [br, u8, List.map_set]
    have hw : stv s 1 (.pointer (some ⟨c, j, some 0⟩)) (.int .u8 z) = some (s.put c (.row 1 (br (l.set j z)) false)) := by
      rw [stv_row hg, bx_int, bds, ← hset, hbj]; rfl
    have hg2 : (s.put c (.row 1 (br (l.set j z)) false)).get c = some (.row 1 (br (l.set j z)) false) := get_put_same hg
    have ho : ∀ x, x ≠ c → (s.put c (.row 1 (br (l.set j z)) false)).get x = s.get x := fun x hx => get_put_ne hx
    have hf2 : Fresh (s.put c (.row 1 (br (l.set j z)) false)) := hf.put
    have hn2 : (s.put c (.row 1 (br (l.set j z)) false)).n = s.n := rfl
    generalize s.put c (.row 1 (br (l.set j z)) false) = s1 at *
    obtain ⟨s', g1, g2, g3, g4⟩ := loop13 (a := a) (y := y) (e0 := e0) hl d (j + 1) (by omega) (l := l.set j z) (by simp [hll]) hg2 hf2
    refine ⟨s', fun e => ?_, g2, g3.trans hn2, fun x hx => (g4 x hx).trans (ho x hx)⟩
    have g := g1 e
    rw [show e + (d + 1) + 1 = (e + d + 1) + 1 by omega, iter_succ]
    revert g
    generalize iter (leapfroglaw03x_PackOwn.l13 std) (e + d + 1) = R
    intro g
    unfold leapfroglaw03x_PackOwn.l13
    simp only [std_bd, std_cnd, List.getD_cons_zero, List.getD_cons_succ, hlen, lt0, hi, hd, hz, hw, add0, bds, cnd]
    exact g
/-- A row of one's own is turned over: nothing else moves. -/
theorem flip9 {a b y u : Value} {n0 : Nat} {s0 s : St} {l : List Int} (h : Ful n0 s0 1 u (br l)) (f0 : Fresh s0) (hk : ∀ x, x < s0.n → s.get x = s0.get x) (hf : Fresh s) (hl : l.length ≤ 1000000000) :
    ∃ s', iter (leapfroglaw03x_PackOwn.l9 std) BIG [a, b, u, y, .int .i64 0] s = some (0, [a, b, y], s') ∧ Fresh s' ∧ s'.n = s.n ∧ ∀ x, x < n0 ∨ s0.n ≤ x → s'.get x = s.get x := by
  rcases h with ⟨rfl, e⟩ | ⟨c, e, h1, rfl, hg, _⟩
  · refine ⟨s, ?_, hf, rfl, fun _ _ => rfl⟩
    rw [show BIG = 4611686018427387903 + 1 from rfl, iter_succ]
    simp only [leapfroglaw03x_PackOwn.l9, sy, reduceIte, Nat.reduceAdd, Nat.reduceLeDiff, Nat.reduceLT, Nat.reduceEqDiff, Int.reduceEq, Int.reduceLT, Int.reduceLE, Int.reduceNe, ly]
    rfl
  · have hlt := f0.lt hg
    rw [br_length] at *
    obtain ⟨s', g1, g2, g3, g4⟩ := loop9 (a := a) (b := b) (y := y) (e0 := e) hl l.length 0 (by omega) rfl ((hk c hlt).trans hg) hf
    have g := g1 (BIG - l.length - 1)
    rw [show BIG - l.length - 1 + l.length + 1 = BIG by unfold BIG; omega] at g
    exact ⟨s', g, g2, g3, fun x hx => g4 x (by omega)⟩
theorem flip13 {a y u : Value} {n0 : Nat} {s0 s : St} {l : List Int} (h : Ful n0 s0 1 u (br l)) (f0 : Fresh s0) (hk : ∀ x, n0 ≤ x → x < s0.n → s.get x = s0.get x) (hf : Fresh s) (hl : l.length ≤ 1000000000) :
    ∃ s', iter (leapfroglaw03x_PackOwn.l13 std) BIG [a, u, y, .int .i64 0] s = some (0, [a, y], s') ∧ Fresh s' ∧ s'.n = s.n ∧ ∀ x, x < n0 ∨ s0.n ≤ x → s'.get x = s.get x := by
  rcases h with ⟨rfl, e⟩ | ⟨c, e, h1, rfl, hg, _⟩
  · refine ⟨s, ?_, hf, rfl, fun _ _ => rfl⟩
    rw [show BIG = 4611686018427387903 + 1 from rfl, iter_succ]
    simp only [leapfroglaw03x_PackOwn.l13, sy, reduceIte, Nat.reduceAdd, Nat.reduceLeDiff, Nat.reduceLT, Nat.reduceEqDiff, Int.reduceEq, Int.reduceLT, Int.reduceLE, Int.reduceNe, ly]
    rfl
  · have hlt := f0.lt hg
    rw [br_length] at *
    obtain ⟨s', g1, g2, g3, g4⟩ := loop13 (a := a) (y := y) (e0 := e) hl l.length 0 (by omega) rfl ((hk c h1 hlt).trans hg) hf
    have g := g1 (BIG - l.length - 1)
    rw [show BIG - l.length - 1 + l.length + 1 = BIG by unfold BIG; omega] at g
    exact ⟨s', g, g2, g3, fun x hx => g4 x (by omega)⟩
theorem law (s : St) (us : List Value) (ha : AllRo s) (hf : ∀ b, s.n ≤ b → s.get b = none) (h : Args s [(false, [.sl [.i .u8]])] us) : ∃ s', leapfroglaw03x_PackOwn.w us s = some (.bool true, s') := by
  unfold Args Args Arg at h
  obtain ⟨a0, _, rfl, ha0, rfl⟩ := h
  unfold Leaf.Are at ha0
  obtain ⟨_, _, e0, hl0, e1⟩ := ha0
  unfold Leaf.Are at e1
  subst e1
  simp only [List.cons.injEq, and_true] at e0
  subst e0
  have hF : Fresh s := hf
  obtain ⟨bv, bs, b1, b2, b3, b4, b5⟩ := bytes_pre hl0 hF
  have pre := b5 [] s (.refl s)
  have hbP := b1.pers hF
  -- a row of one's own
  have als0 : ((bls 1 (List.replicate 0 [.int .u8 0]) []).bind fun rows => als s 1 0 rows) = some (.slice (some ⟨s.n, 0, some 0⟩) 0 0, s.new (.row 1 [] false)) := rfl
  have m0 : More s (s.new (.row 1 [] false)) := .new
  have h0 : Ful s.n (s.new (.row 1 [] false)) 1 (.slice (some ⟨s.n, 0, some 0⟩) 0 0) (br []) := .inr ⟨s.n, 0, Nat.le_refl _, rfl, get_new_same, .inr rfl⟩
  generalize s.new (.row 1 [] false) = s0 at *
  have b1' := (hbP.to m0.old).here
  obtain ⟨w, s1, w1, m1, hw, f1⟩ := app_ful (s0 := s) (m0.fresh hF) h0 m0 b1'.len b1'.rows (by simp [br_length]; omega)
  have hw : Ful s.n s1 1 w (br bs) := hw
  -- the field
  obtain ⟨f, hfd⟩ : ∃ f : Fd, f = { fd0 4 with b := w } := ⟨_, rfl⟩
  have hbx := hw.isR.bx
  have hbl : bld [(.int .i64 0), (.int .u64 0), (.int .i64 0), (.bool false), (.slice none 0 0), (.int .i64 0), (.int .u64 0), (.int .i64 0), (.int .u64 0), (.int .i64 0), (.int .i64 0), (.int .u64 0), (.int .i64 0), (.int .u64 0)] [(0, 1, .int .i64 4), (4, 1, w)] = some f.v := by
    rw [hfd]
    simp only [sy, reduceIte, Nat.reduceAdd, Nat.reduceLeDiff, Nat.reduceLT, Nat.reduceEqDiff, Int.reduceEq, Int.reduceLT, Int.reduceLE, Int.reduceNe, ly, hbx, Fd.v, Fd.cs, fd0]
  have als2 : ((bls 14 (List.replicate 1 [(.int .i64 0), (.int .u64 0), (.int .i64 0), (.bool false), (.slice none 0 0), (.int .i64 0), (.int .u64 0), (.int .i64 0), (.int .u64 0), (.int .i64 0), (.int .i64 0), (.int .u64 0), (.int .i64 0), (.int .u64 0)]) [(0, f.v)]).bind fun rows => als s1 14 1 rows) = some (.slice (some ⟨s1.n, 0, some 0⟩) 1 2, s1.new (.row 14 [f.cs] false)) := rfl
  have m2 : More s1 (s1.new (.row 14 [f.cs] false)) := .new
  have n2 : (s1.new (.row 14 [f.cs] false)).n = s1.n + 1 := rfl
  have r2 : IsR (s1.new (.row 14 [f.cs] false)) 14 (.slice (some ⟨s1.n, 0, some 0⟩) 1 2) [f.cs] := (ful_one (n0 := 0) (Nat.zero_le _)).isR
  generalize s1.new (.row 14 [f.cs] false) = s2 at *
  have f2 := m2.fresh f1
  have hfA : FdA f := by rw [hfd]; exact ⟨by simp [fd0], by simp [fd0], by simp [fd0], by simp [fd0], by simp [fd0], by simp [fd0], by simp [fd0], by simp [fd0], by simp [fd0], by simp [fd0], by simp [fd0], by simp [fd0]⟩
  have hok : okP (f, bs) := by
    rw [hfd]
    exact okP_mk (by simp [fd0, isKd]) (by simp [sameP, onlyF, ownB, fd0]) (fun _ => by omega) (by simp [fd0]) (by simp [fd0]) (by simp [fd0])
  have hfb : f.b = w := by rw [hfd]
  have hfk : f.k = 4 := by rw [hfd]; rfl
  have hFL : FL s2.n s2 (.slice (some ⟨s1.n, 0, some 0⟩) 1 2) [(f, bs)] := by
    refine ⟨r2.pers f2, fun p hp => ?_⟩
    cases List.mem_singleton.1 hp
    refine ⟨hfA, ?_⟩
    simp only [hfb]
    exact ((hw.more m2 f1).byt.pers f2)
  have hall : ∀ p ∈ [(f, bs)], FdA p.1 ∧ okP p ∧ okY p.2 := fun p hp => by
    cases List.mem_singleton.1 hp
    exact ⟨hfA, hok, b2⟩
  obtain ⟨x, s3, x1, m3, x3, f3⟩ := pack_v hFL (Nat.le_refl _) (by simp) f2
  have oe : outE [(f, bs)] = 0 := by unfold outE; rw [if_pos fun p hp => (hall p hp).2.1]
  have ob : outB [(f, bs)] = wBs [(f, bs)] := by unfold outB; rw [if_pos fun p hp => (hall p hp).2.1]
  rw [oe] at x1
  rw [ob] at x3
  obtain ⟨o1, o2⟩ := okY_wBs hall
  have o2 : (wBs [(f, bs)]).length ≤ 65600 := by simpa using o2
  have als4 : ((bls 1 (List.replicate 1 [.int .i64 0]) [(0, .int .i64 4)]).bind fun rows => als s3 1 1 rows) = some (.slice (some ⟨s3.n, 0, some 0⟩) 1 2, s3.new (.row 1 [[.int .i64 4]] false)) := rfl
  have m4 : More s3 (s3.new (.row 1 [[.int .i64 4]] false)) := .new
  have r4 : IsR (s3.new (.row 1 [[.int .i64 4]] false)) 1 (.slice (some ⟨s3.n, 0, some 0⟩) 1 2) (kr [4]) := (ful_one (n0 := 0) (Nat.zero_le _)).isR
  generalize s3.new (.row 1 [[.int .i64 4]] false) = s4 at *
  have f4 := m4.fresh f3
  have x4 := x3.more m4 f3
  have hlx := x4.byt.lenL
  rw [br_length] at hlx
  have hkl : KL s4.n s4 (.slice (some ⟨s3.n, 0, some 0⟩) 1 2) ([(f, bs)].map fun p => p.1.k) := by
    simp only [List.map_cons, List.map_nil, hfk]
    exact r4.pers f4
  obtain ⟨y, s5, fs, u1, u2, u3, u4, u5, u6, u7⟩ := (unpack_of hlx).1 (first_v (ks := [(f, bs)].map fun p => p.1.k) f4 (x4.byt.pers f4) o1 (by omega) hkl (by simp) (Nat.le_refl _) (Nat.le_refl _))
  rw [unpackP_w hall] at u1 u5
  have u1 : pack_Unpack.v x (.slice (some ⟨s3.n, 0, some 0⟩) 1 2) s4 = some (.tuple ⟨[y, .int .i64 0, .int .i64 0]⟩, s5) := u1
  obtain ⟨q, rfl, hq⟩ : ∃ q, fs = [q] ∧ q.2 = bs := by
    match fs, u5 with
    | [q], u5 =>
      simp only [List.map_cons, List.map_nil, List.cons.injEq, and_true] at u5
      exact ⟨q, rfl, congrArg Prod.snd u5⟩
    | [], u5 => simp at u5
    | _ :: _ :: _, u5 => simp at u5
  have hly := u4.len
  have hly : lenL y = some (.int .i64 1) := hly
  -- what stays
  have k01 := m0.n
  have k1 := m1.n
  have k2 := m2.n
  have k3 := m3.n
  have k4 := m4.n
  have k5 := u2.n
  have M5 : More s s5 := (((m1.trans m2).trans m3).trans m4).trans u2
  have w5 : Ful s.n s5 1 w (br bs) := (((hw.more m2 f1).more m3 f2).more m4 f3).more u2 f4
  have c1 := byt_b2s w5.byt
  have c2 := byt_b2s (hbP.to M5.old).here
  have eq2 : ∀ (b : ByteArray), eqb [2] false true (.string b) (.string b) = some (.bool false) := fun b => by rw [neb2]; simp
  have eq2' : ∀ (b : ByteArray), eqb [2] false false (.string b) (.string b) = some (.bool true) := fun b => by rw [eqb2]; simp
  have e00 : eqb [1] false true (.int .i64 0) (.int .i64 0) = some (.bool false) := rfl
  have e11 : eqb [1] false true (.int .i64 1) (.int .i64 1) = some (.bool false) := rfl
  obtain ⟨s6, g1, g2, g3, g4⟩ := flip9 (a := bv) (b := w) (y := y) (s := s5) x4 f4 u2.old u3 (by omega)
  obtain ⟨s7, i1, i2, i3, i4⟩ := flip13 (a := bv) (y := y) (s := s6) hw f1 (fun x hx1 hx2 => by
    rw [g4 x (.inl (by omega)), u2.old x (by omega), m4.old x (by omega), m3.old x (by omega), m2.old x hx2]) g2 (by omega)
  have keep7 : ∀ x, s4.n ≤ x → s7.get x = s5.get x := fun x hx => by rw [i4 x (.inr (by omega)), g4 x (.inr hx)]
  have old7 : ∀ x, x < s.n → s7.get x = s.get x := fun x hx => by rw [i4 x (.inl hx), g4 x (.inl (by omega)), M5.old x hx]
  have y7 : Ful s4.n s7 14 y [q.1.cs] := by
    rcases u6 with ⟨e, e2⟩ | ⟨c, e, a1, a2, a3, a4⟩
    · simp at e2
    · exact .inr ⟨c, e, a1, a2, (keep7 c a1).trans a3, a4⟩
  have q7 : Ful s4.n s7 1 q.1.b (br bs) := by
    have := u7 q (by simp)
    rw [hq] at this
    rcases this with e | ⟨c, e, a1, a2, a3, a4⟩
    · exact .inl e
    · exact .inr ⟨c, e, a1, a2, (keep7 c a1).trans a3, a4⟩
  obtain ⟨cb, all, ro, j1, j2, j3⟩ := y7.isR.at (j := 0) (r := q.1.cs) rfl
  have j1 : idx s7 14 y (.int .i64 0) = some (.pointer (some ⟨cb, 0, some 0⟩)) := j1
  have fl4 : fld 4 (.pointer (some ⟨cb, 0, some 0⟩)) = some (.pointer (some ⟨cb, 0, some 4⟩)) := rfl
  have d4 : ldc s7 (.pointer (some ⟨cb, 0, some 4⟩)) = some q.1.b := by rw [ldc_row j2, j3]; rfl
  have c3 := byt_b2s q7.byt
  have c4 := byt_b2s (hbP.to old7).here
  have al : leapfroglaw03x_aliveC.r s7 = some (.bool true) := rfl
  refine ⟨s7, ?_⟩
  show leapfroglaw03x_PackOwn.v _ s = _
  unfold leapfroglaw03x_PackOwn.v leapfroglaw03x_PackOwn.t
  simp only [std_bd, std_cnd, std_gd, std_it]
  rw [pre]
  simp only [bds, List.getD_cons_zero, List.getD_cons_succ, als0, w1, hbl, als2, x1, xtr_eq, List.getElem?_cons_zero, List.getElem?_cons_succ, als4, u1, e00, gdff, pikf, hly, e11, c1, c2, eq2, cndf, g1, i1, j1, fl4, d4, c3, c4, eq2', gdtt, pikt, al]
end PackOwn
end Go.Proofs.Ytmbfnpadhlfepaa
