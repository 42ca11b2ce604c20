/-
  The fields with which bytes begin: First, joined; the fields that bytes are.
-/
import Derived.Test.YtmbfnpadhlfepaaPakS
set_option linter.unusedSimpArgs false
set_option linter.unusedVariables false
set_option maxRecDepth 100000
set_option maxHeartbeats 4000000
namespace Go.Proofs.Ytmbfnpadhlfepaa
open Go.Sim Go.Sim.Bt
attribute [local congr] bdc cndc itec gdc gdSc gdUc

theorem Ful.byt {n0 : Nat} {s : St} {v : Value} {l : List Int} (h : Ful n0 s 1 v (br l)) : Byt s v (br l) := by
  have h1 := h.lenV
  have h2 := h.rowsOf
  refine ⟨?_, h1, h2, ⟨_, bytesOf_br l⟩⟩
  rcases h with ⟨rfl, _⟩ | ⟨b, e, _, rfl, _⟩
  · exact ⟨_, _, _, rfl⟩
  · exact ⟨_, _, _, rfl⟩
/-- What First answers. -/
def FirstIs (s : St) (P : List FB × Nat × Int) (r : Option (Value × St)) : Prop :=
  ∃ v s' fs, r = some (.tuple ⟨[v, .int .i64 (P.2.1 : Int), .int .i64 P.2.2]⟩, s') ∧ More s s' ∧ Fresh s' ∧ FL s'.n s' v fs ∧ fs.map clr = P.1 ∧ Ful s.n s' 14 v (fs.map fun p => p.1.cs) ∧ ∀ p ∈ fs, Ful s.n s' 1 p.1.b (br p.2)
theorem fl_nil (s : St) : FL s.n s nilB [] := ⟨fun s' _ => .inl ⟨rfl, rfl⟩, fun p hp => by cases hp⟩
theorem caught (s : St) (N : Nat) (e : Int) {bv : Value} {p : Nat} {lv v1 v2 : Value} (h0 : s.get N = some (.row 1 [[lv]] false)) (h1 : s.get (N + 1) = some (.row 1 [[v1]] false)) (h2 : s.get (N + 2) = some (.row 1 [[v2]] false)) (h3 : s.get (N + 3) = some (.row 2 [[bv, .int .i64 (p : Int)]] false)) (h4 : s.get (N + 4) = some (.row 1 [[rpt (N + 3)]] false)) :
    ∃ s', pack_FirstC.c std (cpt (N + 4)) (cpt N) (cpt (N + 1)) (cpt (N + 2)) (pv e) s = some s' ∧ s'.n = s.n ∧ (Fresh s → Fresh s') ∧ (∀ x, x < N → s'.get x = s.get x) ∧ ldc s' (cpt N) = some nilB ∧ ldc s' (cpt (N + 1)) = some (.int .i64 (p : Int)) ∧ ldc s' (cpt (N + 2)) = some (.int .i64 e) := by
  have e1 : eqI false (pv e) .nilIface = some (.bool false) := rfl
  have e2 : tas Try.prog 82 true (.agg #[.int .i64 0]) (pv e) = some (.tuple ⟨[.agg ⟨[.int .i64 e]⟩, .bool true]⟩) := by kernel_rfl
  have e3 : xtr 0 (.tuple ⟨[.agg ⟨[.int .i64 e]⟩, .bool true]⟩) = some (.agg ⟨[.int .i64 e]⟩) := rfl
  have e4 : xtr 1 (.tuple ⟨[.agg ⟨[.int .i64 e]⟩, .bool true]⟩) = some (.bool true) := rfl
  have e5 : bx (.agg #[.int .i64 0]) = some [.int .i64 0] := rfl
  have e6 : stl [.int .i64 0] 0 1 (.agg ⟨[.int .i64 e]⟩) = some [.int .i64 e] := rfl
  have e7 : un .not (.bool true) = some (.bool false) := rfl
  have e8 : ldc s (cpt (N + 4)) = some (rpt (N + 3)) := by rw [cpt, ldc_row h4]; rfl
  have e9 : nck (rpt (N + 3)) = some (rpt (N + 3)) := rfl
  have e10 : fld 0 (rpt (N + 3)) = some (rpt (N + 3)) := rfl
  have e11 : fld 1 (rpt (N + 3)) = some (.pointer (some ⟨N + 3, 0, some 1⟩)) := rfl
  have e12 : ldc s (.pointer (some ⟨N + 3, 0, some 1⟩)) = some (.int .i64 (p : Int)) := by rw [ldc_row h3]; rfl
  have e13 : lcl [.int .i64 e] 0 = some (.int .i64 e) := rfl
  have w1 : stv s 1 (cpt N) (.slice none 0 0) = some (s.put N (.row 1 [[nilB]] false)) := by rw [cpt, stv_row h0]; rfl
  have a0 : (s.put N (.row 1 [[nilB]] false)).get N = some (.row 1 [[nilB]] false) := get_put_same h0
  have a1 : (s.put N (.row 1 [[nilB]] false)).get (N + 1) = some (.row 1 [[v1]] false) := by rw [get_put_ne (by omega)]; exact h1
  have a2 : (s.put N (.row 1 [[nilB]] false)).get (N + 2) = some (.row 1 [[v2]] false) := by rw [get_put_ne (by omega)]; exact h2
  have f1 : Fresh s → Fresh (s.put N (.row 1 [[nilB]] false)) := fun f => f.put
  have o1 : ∀ x, x < N → (s.put N (.row 1 [[nilB]] false)).get x = s.get x := fun x hx => get_put_ne (by omega)
  have n1 : (s.put N (.row 1 [[nilB]] false)).n = s.n := rfl
  generalize s.put N (.row 1 [[nilB]] false) = s1 at *
  have w2 : stv s1 1 (cpt (N + 1)) (.int .i64 (p : Int)) = some (s1.put (N + 1) (.row 1 [[.int .i64 (p : Int)]] false)) := by rw [cpt, stv_row a1]; rfl
  have b0 : (s1.put (N + 1) (.row 1 [[.int .i64 (p : Int)]] false)).get N = some (.row 1 [[nilB]] false) := by rw [get_put_ne (by omega)]; exact a0
  have b1 : (s1.put (N + 1) (.row 1 [[.int .i64 (p : Int)]] false)).get (N + 1) = some (.row 1 [[.int .i64 (p : Int)]] false) := get_put_same a1
  have b2 : (s1.put (N + 1) (.row 1 [[.int .i64 (p : Int)]] false)).get (N + 2) = some (.row 1 [[v2]] false) := by rw [get_put_ne (by omega)]; exact a2
  have f2 : Fresh s1 → Fresh (s1.put (N + 1) (.row 1 [[.int .i64 (p : Int)]] false)) := fun f => f.put
  have o2 : ∀ x, x < N → (s1.put (N + 1) (.row 1 [[.int .i64 (p : Int)]] false)).get x = s1.get x := fun x hx => get_put_ne (by omega)
  have n2 : (s1.put (N + 1) (.row 1 [[.int .i64 (p : Int)]] false)).n = s1.n := rfl
  generalize s1.put (N + 1) (.row 1 [[.int .i64 (p : Int)]] false) = s2 at *
  have w3 : stv s2 1 (cpt (N + 2)) (.int .i64 e) = some (s2.put (N + 2) (.row 1 [[.int .i64 e]] false)) := by rw [cpt, stv_row b2]; rfl
  refine ⟨s2.put (N + 2) (.row 1 [[.int .i64 e]] false), ?_, by rw [put_n, n2, n1], fun f => (f2 (f1 f)).put, fun x hx => by rw [get_put_ne (by omega), o2 x hx, o1 x hx], ?_, ?_, ?_⟩
  · unfold pack_FirstC.c
    simp only [std_bd, std_cnd, e1, e2, e3, e4, e5, e6, e7, e8, e9, e10, e11, e12, e13, w1, w2, w3, bds, cnd, if_true, List.getD_cons_zero, List.getD_cons_succ, cellsA]
  · rw [cpt, ldc_row (by rw [get_put_ne (by omega)]; exact b0)]; rfl
  · rw [cpt, ldc_row (by rw [get_put_ne (by omega)]; exact b1)]; rfl
  · rw [cpt, ldc_row (get_put_same b2)]; rfl
theorem idle (s : St) (y1 y2 y3 y4 : Value) : pack_FirstC.c std y4 y1 y2 y3 .nilIface s = some s := by
  have e1 : eqI false .nilIface .nilIface = some (.bool true) := rfl
  unfold pack_FirstC.c
  simp only [std_bd, std_cnd, e1, bds, cnd]
theorem first_v {n1 n : Nat} {s : St} {bv kv : Value} {bs ks : List Int} (hf : Fresh s) (hb : Pers n1 s fun s => Byt s bv (br bs)) (hok : okY bs) (hsz : bs.length ≤ 1000000000) (hk : KL n s kv ks) (hks : ks.length ≤ 1000000) (hn : n ≤ s.n) (hn1 : n1 ≤ s.n) :
    FirstIs s (firstP bs ks) (pack_First.v bv kv s) := by
  obtain ⟨N, hN⟩ : ∃ N, N = s.n := ⟨_, rfl⟩
  have A1 : alv s (.slice none 0 0) = some (cpt N, s.new (.row 1 [[nilB]] false)) := by rw [hN]; rfl
  have q0 : (s.new (.row 1 [[nilB]] false)).get N = some (.row 1 [[nilB]] false) := by rw [hN]; exact get_new_same
  have c1 : (s.new (.row 1 [[nilB]] false)).n = N + 1 := by rw [hN]; rfl
  have m1 : More s (s.new (.row 1 [[nilB]] false)) := .new
  generalize s.new (.row 1 [[nilB]] false) = s1 at *
  have A2 : alv s1 (.int .i64 0) = some (cpt (N + 1), s1.new (.row 1 [[.int .i64 0]] false)) := by rw [← c1]; rfl
  have q1 : (s1.new (.row 1 [[.int .i64 0]] false)).get (N + 1) = some (.row 1 [[.int .i64 0]] false) := by rw [← c1]; exact get_new_same
  have c2 : (s1.new (.row 1 [[.int .i64 0]] false)).n = N + 2 := by rw [new_n, c1]
  have m2 : More s1 (s1.new (.row 1 [[.int .i64 0]] false)) := .new
  generalize s1.new (.row 1 [[.int .i64 0]] false) = s2 at *
  have A3 : alv s2 (.int .i64 0) = some (cpt (N + 2), s2.new (.row 1 [[.int .i64 0]] false)) := by rw [← c2]; rfl
  have q2 : (s2.new (.row 1 [[.int .i64 0]] false)).get (N + 2) = some (.row 1 [[.int .i64 0]] false) := by rw [← c2]; exact get_new_same
  have c3 : (s2.new (.row 1 [[.int .i64 0]] false)).n = N + 3 := by rw [new_n, c2]
  have m3 : More s2 (s2.new (.row 1 [[.int .i64 0]] false)) := .new
  generalize s2.new (.row 1 [[.int .i64 0]] false) = s3 at *
  have f1 := m1.fresh hf
  have f2 := m2.fresh f1
  have f3 := m3.fresh f2
  have m03 := (m1.trans m2).trans m3
  have q0' : s3.get N = some (.row 1 [[nilB]] false) := (m2.trans m3).get f1 q0
  have q1' : s3.get (N + 1) = some (.row 1 [[.int .i64 0]] false) := m3.get f2 q1
  have hlen := hk.len
  have kl := kindloop (a0 := bv) (hk.to fun x hx => m03.old x (by omega)) hks q0' q1' q2 ks.length 0 (by omega)
  rw [List.drop_zero] at kl
  have hB : BIG - ks.length - 1 + ks.length + 1 = BIG := by unfold BIG; omega
  unfold firstP
  by_cases hkk : ∀ k ∈ ks, isKd k
  · rw [if_pos hkk] at kl ⊢
    have kl := kl (BIG - ks.length - 1)
    rw [hB] at kl
    have kl : iter (pack_First.l2 std) BIG [bv, kv, cpt N, cpt (N + 1), cpt (N + 2), kv, .int .i64 (ks.length : Int), .int .i64 0] s3 = _ := kl
    have hbx := hb.here.bx
    have B1 : bld [.slice none 0 0, .int .i64 0] [(0, 1, bv)] = some (.agg ⟨[bv, .int .i64 0]⟩) := by simp only [sy, reduceIte, Nat.reduceAdd, Nat.reduceLeDiff, Nat.reduceLT, Nat.reduceEqDiff, Int.reduceEq, Int.reduceLT, Int.reduceLE, Int.reduceNe, ly, hbx]
    have B2 : bld [.slice none 0 0, .int .i64 0] [(0, 2, .agg ⟨[bv, .int .i64 0]⟩)] = some (.agg ⟨[bv, .int .i64 0]⟩) := rfl
    have A4 : alv s3 (.agg ⟨[bv, .int .i64 0]⟩) = some (rpt (N + 3), s3.new (.row 2 [[bv, .int .i64 0]] false)) := by rw [← c3]; rfl
    have q3 : (s3.new (.row 2 [[bv, .int .i64 0]] false)).get (N + 3) = some (.row 2 [[bv, .int .i64 0]] false) := by rw [← c3]; exact get_new_same
    have c4 : (s3.new (.row 2 [[bv, .int .i64 0]] false)).n = N + 4 := by rw [new_n, c3]
    have m4 : More s3 (s3.new (.row 2 [[bv, .int .i64 0]] false)) := .new
    generalize s3.new (.row 2 [[bv, .int .i64 0]] false) = s4 at *
    have f4 := m4.fresh f3
    have A5 : alv s4 (.pointer none) = some (cpt (N + 4), s4.new (.row 1 [[.pointer none]] false)) := by rw [← c4]; rfl
    have q4 : (s4.new (.row 1 [[.pointer none]] false)).get (N + 4) = some (.row 1 [[.pointer none]] false) := by rw [← c4]; exact get_new_same
    have c5 : (s4.new (.row 1 [[.pointer none]] false)).n = N + 5 := by rw [new_n, c4]
    have m5 : More s4 (s4.new (.row 1 [[.pointer none]] false)) := .new
    generalize s4.new (.row 1 [[.pointer none]] false) = s5 at *
    have f5 := m5.fresh f4
    have A6 : stv s5 1 (cpt (N + 4)) (rpt (N + 3)) = some (s5.put (N + 4) (.row 1 [[rpt (N + 3)]] false)) := by rw [cpt, stv_row q4]; rfl
    have q5 : (s5.put (N + 4) (.row 1 [[rpt (N + 3)]] false)).get (N + 4) = some (.row 1 [[rpt (N + 3)]] false) := get_put_same q4
    have o5 : ∀ x, x ≠ N + 4 → (s5.put (N + 4) (.row 1 [[rpt (N + 3)]] false)).get x = s5.get x := fun x hx => get_put_ne hx
    have f6 : Fresh (s5.put (N + 4) (.row 1 [[rpt (N + 3)]] false)) := f5.put
    have c6 : (s5.put (N + 4) (.row 1 [[rpt (N + 3)]] false)).n = N + 5 := c5
    generalize s5.put (N + 4) (.row 1 [[rpt (N + 3)]] false) = s6 at *
    have m45 := m4.trans m5
    have old6 : ∀ x, x < N → s6.get x = s.get x := fun x hx => by
      rw [o5 x (by omega), m45.old x (by omega), m03.old x (by omega)]
    have hh : pack_First.h std bv kv s = some (true, [kv, cpt N, cpt (N + 1), cpt (N + 2), cpt (N + 4)], s6) := by
      unfold pack_First.h
      simp only [std_bd, std_cnd, std_it, A1, A2, A3, hlen, kl, bds, if_true, List.getD_cons_zero, List.getD_cons_succ, B1, B2, A4, A5, A6]
    have hFs : FsAt N n1 s bv bs [] 0 s6 := by
      refine ⟨⟨f6, ?_, hb.to fun x hx => old6 x (by omega), by omega, Nat.zero_le _, hsz, hok⟩, ⟨nilB, ?_, .inl ⟨rfl, rfl⟩⟩, ?_, ?_, q5, fun p hp => absurd hp (List.not_mem_nil), by omega, old6⟩
      · rw [o5 _ (by omega)]; exact m5.get f4 q3
      · rw [o5 _ (by omega)]; exact m45.get f3 q0'
      · rw [o5 _ (by omega)]; exact m45.get f3 q1'
      · rw [o5 _ (by omega)]; exact m45.get f3 q2
    have hl := fieldsloop (n := n) (by omega) (by omega) hk hks ks.length 0 (by omega) (rfl : ([] : List FB).length = 0) hFs
    rw [List.drop_zero, List.map_nil] at hl
    revert hl
    cases firstL bs ks 0 [] with
    | ok gs p =>
      rintro ⟨s7, fs, g1, g2, g3⟩
      have g := g1 (BIG - ks.length - 1)
      dsimp only at g
      rw [hB] at g
      have g : iter (pack_First.l10 std) BIG [cpt N, cpt (N + 1), cpt (N + 2), cpt (N + 4), kv, .int .i64 (ks.length : Int), .int .i64 0] s6 = _ := g
      obtain ⟨lv, l1, l2⟩ := g2.lst
      have d1 : ldc s7 (cpt N) = some lv := by rw [cpt, ldc_row l1]; rfl
      have d2 : ldc s7 (cpt (N + 4)) = some (rpt (N + 3)) := by rw [cpt, ldc_row g2.box]; rfl
      have e9 : nck (rpt (N + 3)) = some (rpt (N + 3)) := rfl
      have e10 : fld 0 (rpt (N + 3)) = some (rpt (N + 3)) := rfl
      have e11 : fld 1 (rpt (N + 3)) = some (.pointer (some ⟨N + 3, 0, some 1⟩)) := rfl
      have d3 : ldc s7 (.pointer (some ⟨N + 3, 0, some 1⟩)) = some (.int .i64 (p : Int)) := by rw [ldc_row g2.rd.row]; rfl
      have w1 : stv s7 1 (cpt N) lv = some (s7.put N (.row 1 [[lv]] false)) := by rw [cpt, stv_row l1, l2.isR.bx]; rfl
      have a0 : (s7.put N (.row 1 [[lv]] false)).get N = some (.row 1 [[lv]] false) := get_put_same l1
      have a1 : (s7.put N (.row 1 [[lv]] false)).get (N + 1) = some (.row 1 [[.int .i64 0]] false) := by rw [get_put_ne (by omega)]; exact g2.r1
      have a2 : (s7.put N (.row 1 [[lv]] false)).get (N + 2) = some (.row 1 [[.int .i64 0]] false) := by rw [get_put_ne (by omega)]; exact g2.r2
      have a3 : (s7.put N (.row 1 [[lv]] false)).get (N + 3) = some (.row 2 [[bv, .int .i64 (p : Int)]] false) := by rw [get_put_ne (by omega)]; exact g2.rd.row
      have a4 : (s7.put N (.row 1 [[lv]] false)).get (N + 4) = some (.row 1 [[rpt (N + 3)]] false) := by rw [get_put_ne (by omega)]; exact g2.box
      have F1 : Fresh (s7.put N (.row 1 [[lv]] false)) := g2.rd.fr.put
      have u1 : ∀ {sz : Nat} {w : Value} {rows : List (List Value)}, Ful (N + 5) s7 sz w rows → Ful (N + 5) (s7.put N (.row 1 [[lv]] false)) sz w rows := fun h => h.putN (by omega)
      have o1 : ∀ x, x < N → (s7.put N (.row 1 [[lv]] false)).get x = s7.get x := fun x hx => get_put_ne (by omega)
      have n1' : (s7.put N (.row 1 [[lv]] false)).n = s7.n := rfl
      generalize s7.put N (.row 1 [[lv]] false) = s8 at *
      have d4 : ldc s8 (cpt (N + 4)) = some (rpt (N + 3)) := by rw [cpt, ldc_row a4]; rfl
      have d5 : ldc s8 (.pointer (some ⟨N + 3, 0, some 1⟩)) = some (.int .i64 (p : Int)) := by rw [ldc_row a3]; rfl
      have sm1 : sameV (rpt (N + 3)) (rpt (N + 3)) = true := by simp [rpt, sameV]
      have sm2 : sameV (.int .i64 (p : Int)) (.int .i64 (p : Int)) = true := sameII
      have w2 : stv s8 1 (cpt (N + 1)) (.int .i64 (p : Int)) = some (s8.put (N + 1) (.row 1 [[.int .i64 (p : Int)]] false)) := by rw [cpt, stv_row a1]; rfl
      have b0 : (s8.put (N + 1) (.row 1 [[.int .i64 (p : Int)]] false)).get N = some (.row 1 [[lv]] false) := by rw [get_put_ne (by omega)]; exact a0
      have b1 : (s8.put (N + 1) (.row 1 [[.int .i64 (p : Int)]] false)).get (N + 1) = some (.row 1 [[.int .i64 (p : Int)]] false) := get_put_same a1
      have b2 : (s8.put (N + 1) (.row 1 [[.int .i64 (p : Int)]] false)).get (N + 2) = some (.row 1 [[.int .i64 0]] false) := by rw [get_put_ne (by omega)]; exact a2
      have F2 : Fresh (s8.put (N + 1) (.row 1 [[.int .i64 (p : Int)]] false)) := F1.put
      have u2 : ∀ {sz : Nat} {w : Value} {rows : List (List Value)}, Ful (N + 5) s8 sz w rows → Ful (N + 5) (s8.put (N + 1) (.row 1 [[.int .i64 (p : Int)]] false)) sz w rows := fun h => h.putN (by omega)
      have o2 : ∀ x, x < N → (s8.put (N + 1) (.row 1 [[.int .i64 (p : Int)]] false)).get x = s8.get x := fun x hx => get_put_ne (by omega)
      have n2' : (s8.put (N + 1) (.row 1 [[.int .i64 (p : Int)]] false)).n = s8.n := rfl
      generalize s8.put (N + 1) (.row 1 [[.int .i64 (p : Int)]] false) = s9 at *
      have w3 : stv s9 1 (cpt (N + 2)) (.int .i64 0) = some (s9.put (N + 2) (.row 1 [[.int .i64 0]] false)) := by rw [cpt, stv_row b2]; rfl
      have hbd : ∀ f, pack_First.b std f kv (cpt N) (cpt (N + 1)) (cpt (N + 2)) (cpt (N + 4)) s6 = some (true, undef, [cpt N, cpt (N + 1), cpt (N + 2)], s9.put (N + 2) (.row 1 [[.int .i64 0]] false)) := fun f => by
        unfold pack_First.b
        simp only [std_bd, std_cnd, std_it, hlen, g, bds, if_true, List.getD_cons_zero, List.getD_cons_succ, d1, d2, e9, e10, e11, d3, w1, d4, sm1, d5, sm2, w2, w3, cnd]
      have n10 : (s9.put (N + 2) (.row 1 [[.int .i64 0]] false)).n = s7.n := by rw [put_n, n2', n1']
      have F3 : Fresh (s9.put (N + 2) (.row 1 [[.int .i64 0]] false)) := F2.put
      have u3 : ∀ {sz : Nat} {w : Value} {rows : List (List Value)}, Ful (N + 5) s7 sz w rows → Ful (N + 5) (s9.put (N + 2) (.row 1 [[.int .i64 0]] false)) sz w rows := fun h => (u2 (u1 h)).putN (by omega)
      refine ⟨lv, s9.put (N + 2) (.row 1 [[.int .i64 0]] false), fs, first_yes hh hbd (idle _ _ _ _ _) ?_ ?_ ?_, ⟨?_, fun x hx => ?_, fun _ => F3⟩, F3, ⟨(u3 l2).isR.pers F3, fun p hp => ⟨(g2.byt p hp).1, (u3 (g2.byt p hp).2).byt.pers F3⟩⟩, g3, (u3 l2).le (by omega), fun p hp => (u3 (g2.byt p hp).2).le (by omega)⟩
      · rw [cpt, ldc_row (by rw [get_put_ne (by omega)]; exact b0)]; rfl
      · rw [cpt, ldc_row (by rw [get_put_ne (by omega)]; exact b1)]; rfl
      · rw [cpt, ldc_row (get_put_same b2)]; rfl
      · rw [n10]; have := g2.le; omega
      · rw [get_put_ne (by omega), o2 x (by omega), o1 x (by omega), g2.old x (by omega)]
    | bad e p =>
      rintro ⟨s7, fs, g1, g2⟩
      have g := g1 (BIG - ks.length - 1)
      dsimp only at g
      rw [hB] at g
      have g : iter (pack_First.l10 std) BIG [cpt N, cpt (N + 1), cpt (N + 2), cpt (N + 4), kv, .int .i64 (ks.length : Int), .int .i64 0] s6 = _ := g
      obtain ⟨lv, l1, l2⟩ := g2.lst
      obtain ⟨s8, k1, k2, k3, k4, k5, k6, k7⟩ := caught s7 N e l1 g2.r1 g2.r2 g2.rd.row g2.box
      have hbd : ∀ f, pack_First.b std f kv (cpt N) (cpt (N + 1)) (cpt (N + 2)) (cpt (N + 4)) s6 = some (false, pv e, [cpt N, cpt (N + 1), cpt (N + 2)], s7) := fun f => by
        unfold pack_First.b
        simp only [std_bd, std_cnd, std_it, hlen, g, bds, List.getD_cons_zero, List.getD_cons_succ]
        rfl
      have F := k3 g2.rd.fr
      refine ⟨nilB, s8, [], first_yes hh hbd k1 k5 k6 k7, ⟨?_, fun x hx => ?_, fun _ => F⟩, F, fl_nil s8, rfl, .inl ⟨rfl, rfl⟩, fun p hp => absurd hp List.not_mem_nil⟩
      · rw [k2]; have := g2.le; omega
      · rw [k4 x (by omega), g2.old x (by omega)]
  · rw [if_neg hkk] at kl ⊢
    obtain ⟨s', k1, k2, k3, k4, k5, k6, k7⟩ := kl
    have k := k1 (BIG - ks.length - 1)
    rw [hB] at k
    have k : iter (pack_First.l2 std) BIG [bv, kv, cpt N, cpt (N + 1), cpt (N + 2), kv, .int .i64 (ks.length : Int), .int .i64 0] s3 = _ := k
    have F := k4 f3
    refine ⟨nilB, s', [], first_no (n := .int .i64 0) (c := .int .i64 30) ?_, ⟨by omega, fun x hx => by rw [k3 x (by omega), m03.old x hx], fun _ => F⟩, F, fl_nil s', rfl, .inl ⟨rfl, rfl⟩, fun p hp => absurd hp List.not_mem_nil⟩
    unfold pack_First.h
    simp only [std_bd, std_cnd, std_it, A1, A2, A3, hlen, k, bds, List.getD_cons_zero, List.getD_cons_succ, k5, k6, k7]
    rfl
end Go.Proofs.Ytmbfnpadhlfepaa
