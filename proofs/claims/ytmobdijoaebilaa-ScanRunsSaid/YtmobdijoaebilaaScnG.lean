/-
  The reference's machine of package scan: Tell, Wake, Next, New; steps that bear items.
-/
import Derived.Test.YtmobdijoaebilaaScnF
set_option linter.unusedSimpArgs false
set_option linter.unusedVariables false
set_option maxRecDepth 100000
set_option maxHeartbeats 2000000
namespace Go.Proofs.Ytmobdijoaebilaa
open Go.Sim Go.Sim.Bt
attribute [local congr] bdc cndc itec gdc gdSc gdUc

theorem sc_w {m : Sc} (h : m.w = false) : ({ m with w := false } : Sc) = m := by cases m; simp only at h; subst h; rfl
theorem has_t {n0 : Nat} {c : SC} {m : Sc} {s : St} {p N : Nat} {iv riv : Value} (f : Fresh s) (hb : 0 ≤ c.st.bt) (h : AtT n0 c m s p N iv riv) (hh : handS m) (hri : m.ri = []) (hx : m.x.rk = 2) (hits : m.its.length ≤ 64) (okF : okC (c.sk m.fr m.fn)) (tr : 0 ≤ m.tr) (a : Ans) {al : List (List Value)} (hB : Byt s a.v al) :
    ∃ s' iv' riv', leapfrogref18x_Scan_got.v (P p) (.agg ⟨a.cs⟩) s = some (unit', s') ∧ AtT n0 c (hasS c m a al) s' p N iv' riv' ∧ StT s s' ∧ (∀ x, own iv' x → own iv x ∨ s.n ≤ x) := by
  obtain ⟨xr, sor, msr, d, wv, ws, cf, rows, rrows, g1, g2, g3, g4, g5, g6, g7, g8⟩ := h.ex
  obtain ⟨ov, w, hsk⟩ := id hh
  have hrn : riv = nilV := by
    rcases h.ri with h | ⟨h, _⟩
    · exact h
    · rw [ov] at h; cases h
  subst hrn
  obtain ⟨mo, hxr, hsor, hso⟩ := g4.hd hh
  subst hxr
  have bxv := hB.bx
  have hlen : lenL iv = some (.int .i64 m.its.length) := by rw [g5.len, g6.1]
  have nk := rnextk_r m.x.n
  have hxe : ({ m.x with rk := 2 } : Rf) = m.x := by cases hm : m.x; rw [hm] at hx; simp only at hx; subst hx; rfl
  -- behind it
  have tail : ∀ {m1 : Sc} {s1 : St} {iv1 : Value} {rows1 : List (List Value)}, Fresh s1 → TRow s1 p (trow c m1 m.x sor d iv1 nilV) → AtN n0 cf msr s1 d wv ws → IsR s1 2 iv1 rows1 → ItR s1 rows1 m1.its → m1.ri = [] → m1.ov = false → m1.w = false → m1.x = m.x → m1.fr = m.fr → m1.fn = m.fn → m1.tr = m.tr → m1.hs = m.hs →
      ∃ s2 s3 riv3, stv s1 2 (.pointer (some ⟨p, 0, some 8⟩)) (KV (nextR m.x.n) (nextN m.x.n)) = some s2 ∧ TRow s2 p (trow c { m1 with fr := nextR m.x.n, fn := nextN m.x.n } m.x sor d iv1 nilV) ∧
        ((lessK m.x.rk m.x.n a.r.rk a.r.n ∧ leapfrogref02x_Less.r (KV m.x.rk m.x.n) (KV a.r.rk a.r.n) s2 = some (.bool true) ∧ leapfrogref18x_Scan_hand.v (P p) (.agg ⟨a.r.cs⟩) (.bool false) s2 = some (unit', s3) ∧ AtT n0 c (takesS c { m1 with fr := nextR m.x.n, fn := nextN m.x.n } a.r false) s3 p N iv1 riv3 ∧ StT s1 s3) ∨
         (¬ lessK m.x.rk m.x.n a.r.rk a.r.n ∧ leapfrogref02x_Less.r (KV m.x.rk m.x.n) (KV a.r.rk a.r.n) s2 = some (.bool false) ∧ leapfrogref18x_Scan_again.v (P p) s2 = some (unit', s3) ∧ AtT n0 c (againS c { m1 with fr := nextR m.x.n, fn := nextN m.x.n }) s3 p N iv1 riv3 ∧ StT s1 s3)) := by
    intro m1 s1 iv1 rows1 f1 r1 hR1 hI1 hT1 ri1 ov1 w1 x1 fr1 fn1 tr1 hs1
    obtain ⟨s2, hs2⟩ : ∃ s2, s2 = TPut s1 p (trow c { m1 with fr := nextR m.x.n, fn := nextN m.x.n } m.x sor d iv1 nilV) := ⟨_, rfl⟩
    have e2 : stv s1 2 (.pointer (some ⟨p, 0, some 8⟩)) (KV (nextR m.x.n) (nextN m.x.n)) = some s2 := by rw [hs2]; simp only [stv_row r1, sy, reduceIte, Nat.reduceAdd, Nat.reduceLeDiff, Nat.reduceLT, Nat.reduceEqDiff, Int.reduceEq, Int.reduceLT, Int.reduceLE, Int.reduceNe, ly]
    have r2 : TRow s2 p (trow c { m1 with fr := nextR m.x.n, fn := nextN m.x.n } m.x sor d iv1 nilV) := by rw [hs2]; exact put_t r1
    have k2 : StpK [36] s1 s2 := by rw [hs2]; exact .put r1 (by simp [kd])
    have f2 := k2.2.2 f1
    have l1 := rless_r m.x.rk m.x.n a.r.rk a.r.n s2
    by_cases k : lessK m.x.rk m.x.n a.r.rk a.r.n
    · rw [decide_eq_true k] at l1
      obtain ⟨s3, riv3, t1, t2, t3⟩ := hand_t (m := { m1 with fr := nextR m.x.n, fn := nextN m.x.n }) (x := a.r) (so' := false) f2 r2 (hR1.stp k2 (by simp) (by simp) f2) g3 g4.inv g4.ok (hI1.stp k2 (by simp)) (hT1.stp k2 (by simp)) ri1 mo (fun e => by cases e)
      exact ⟨s2, s3, riv3, e2, r2, .inl ⟨k, l1, t1, t2, (k2.mono (by simp)).trans t3⟩⟩
    · rw [decide_eq_false k] at l1
      obtain ⟨s3, t1, t2, t3⟩ := again_t (m := { m1 with fr := nextR m.x.n, fn := nextN m.x.n }) f2 hb r2 (hR1.stp k2 (by simp) (by simp) f2) g3 g4.inv g4.ok (hI1.stp k2 (by simp)) (hT1.stp k2 (by simp)) ri1 (okC_fn okF m.x.n) (by show 0 ≤ m1.tr; rw [tr1]; exact tr) ov1
      rw [sc_w (m := { m1 with fr := nextR m.x.n, fn := nextN m.x.n }) w1] at t2
      exact ⟨s2, s3, nilV, e2, r2, .inr ⟨k, l1, t1, t2, (k2.mono (by simp)).trans t3⟩⟩
  rw [← hx] at nk
  unfold hasS
  cases hf : a.f with
  | true =>
    have hh1 : has1 m a al = { m with fr := nextR m.x.n, fn := nextN m.x.n } := by simp [has1, hf]
    rw [if_neg (by simp), hh1]
    obtain ⟨s2, s3, riv3, e2, r2, t⟩ := tail f g1 g2 g5 g6 hri ov w rfl rfl rfl rfl rfl
    rcases t with ⟨u1, u2, u3, u4, u5⟩ | ⟨u1, u2, u3, u4, u5⟩
    · rw [if_pos u1]
      refine ⟨s3, iv, riv3, ?_, u4, u5, fun x hx => .inl hx⟩
      simp only [leapfrogref18x_Scan_got.v, leapfrogref18x_Scan_got.t, leapfrogref18x_Scan_got.t.p1, sy, reduceIte, Nat.reduceAdd, Nat.reduceLeDiff, Nat.reduceLT, Nat.reduceEqDiff, Int.reduceEq, Int.reduceLT, Int.reduceLE, Int.reduceNe, ly, bxv, hf, ldc_row g1, lda_row g1, nk, e2, lda_row r2, u2, u3]
    · rw [if_neg u1]
      refine ⟨s3, iv, riv3, ?_, u4, u5, fun x hx => .inl hx⟩
      simp only [leapfrogref18x_Scan_got.v, leapfrogref18x_Scan_got.t, leapfrogref18x_Scan_got.t.p1, sy, reduceIte, Nat.reduceAdd, Nat.reduceLeDiff, Nat.reduceLT, Nat.reduceEqDiff, Int.reduceEq, Int.reduceLT, Int.reduceLE, Int.reduceNe, ly, bxv, hf, ldc_row g1, lda_row g1, nk, e2, lda_row r2, u2, u3]
  | false =>
    rcases Classical.propComplete (64 ≤ (m.its.length : Int)) with k64 | k64
    · rw [if_pos ⟨rfl, by have := of_eq_true k64; omega⟩]
      have e1 := end_t (l := []) (w := nilV) g1 102 rfl
      have kp : StpK [36] s (TPut s p (trow c (endsS m 102 []) m.x sor d iv nilV)) := .put g1 (by simp [kd])
      refine ⟨_, iv, nilV, ?_, ⟨⟨m.x, sor, msr, d, wv, ws, cf, rows, [], put_t g1, g2.stp kp (by simp) (by simp) f.put, g3, ⟨g4.inv, g4.ok, (fun e => by cases e), fun e => by have := e.1; cases this⟩, g5.stp kp (by simp), g6.stp kp (by simp), .nil, .nil⟩, .inl rfl⟩, kp.mono (by simp), fun x hx => .inl hx⟩
      simp only [leapfrogref18x_Scan_got.v, leapfrogref18x_Scan_got.t, sy, reduceIte, Nat.reduceAdd, Nat.reduceLeDiff, Nat.reduceLT, Nat.reduceEqDiff, Int.reduceEq, Int.reduceLT, Int.reduceLE, Int.reduceNe, ly, bxv, hf, ldc_row g1, hlen, k64, e1]
    · have k64' := of_eq_false k64
      rw [if_neg (by rintro ⟨_, g⟩; omega)]
      have hrl : rows.length = m.its.length := g6.1
      obtain ⟨v1, s1, v2, s2, c1, c2, c3, c4, c5, c6, c7, c8⟩ := copy1_t f g5 (by omega) [.int .u64 m.x.n, a.v]
      have k1 : StpK [] s s1 := .more c4 f
      have k2 : StpK [] s s2 := .more c5 f
      have r1 := k1.row g1 (by simp)
      have r2 := k2.row g1 (by simp)
      have bxi := c3.bx
      have hT2 : ItR s2 (rows ++ [[.int .u64 m.x.n, a.v]]) (m.its ++ [⟨m.x.n, al⟩]) := (g6.stp k2 (by simp)).push (it := ⟨m.x.n, al⟩) (hB.stp k2 (by simp))
      obtain ⟨s3, hs3⟩ : ∃ s3, s3 = TPut s2 p (trow c { m with its := m.its ++ [⟨m.x.n, al⟩] } m.x sor d v2 nilV) := ⟨_, rfl⟩
      have e3 : stv s2 1 (.pointer (some ⟨p, 0, some 18⟩)) v2 = some s3 := by rw [hs3]; simp only [stv_row r2, sy, reduceIte, Nat.reduceAdd, Nat.reduceLeDiff, Nat.reduceLT, Nat.reduceEqDiff, Int.reduceEq, Int.reduceLT, Int.reduceLE, Int.reduceNe, ly, bxi]
      have r3 : TRow s3 p (trow c { m with its := m.its ++ [⟨m.x.n, al⟩] } m.x sor d v2 nilV) := by rw [hs3]; exact put_t r2
      have k3 : StpK [36] s2 s3 := by rw [hs3]; exact .put r2 (by simp [kd])
      have f3 := k3.2.2 c7
      have hh1 : has1 m a al = { m with its := m.its ++ [⟨m.x.n, al⟩], fr := nextR m.x.n, fn := nextN m.x.n } := by simp [has1, hf]
      rw [hh1]
      obtain ⟨s4, s5, riv3, e4, r4, t⟩ := tail (m1 := { m with its := m.its ++ [⟨m.x.n, al⟩] }) f3 r3 ((g2.stp k2 (by simp) (by simp) c7).stp k3 (by simp) (by simp) f3) (c3.stp k3 (by simp)) (hT2.stp k3 (by simp)) hri ov w rfl rfl rfl rfl rfl
      have st : StT s s3 := (k2.mono (by simp)).trans (k3.mono (by simp))
      have ez : ∀ s : St, als s 2 0 [] = some (.slice (some ⟨s.n, 0, some 0⟩) 0 0, s.new (.row 2 [] false)) := fun _ => rfl
      have rp0 : List.replicate 0 [Value.int .u64 0, .slice none 0 0] = [] := rfl
      have z0 : 2 * 0 = 0 := rfl
      rcases t with ⟨u1, u2, u3, u4, u5⟩ | ⟨u1, u2, u3, u4, u5⟩
      · rw [if_pos u1]
        refine ⟨s5, v2, riv3, ?_, u4, st.trans u5, fun x hx => .inr (c8 x hx)⟩
        simp only [leapfrogref18x_Scan_got.v, leapfrogref18x_Scan_got.t, leapfrogref18x_Scan_got.t.p1, sy, reduceIte, Nat.reduceAdd, Nat.reduceLeDiff, Nat.reduceLT, Nat.reduceEqDiff, Int.reduceEq, Int.reduceLT, Int.reduceLE, Int.reduceNe, ly, bxv, hf, ldc_row g1, lda_row g1, hlen, k64, als_eq, rp0, z0, Nat.reduceMul, c1, ldc_row r1, sameII, c2, ldc_row r2, e3, lda_row r3, nk, e4, lda_row r4, u2, u3]
      · rw [if_neg u1]
        refine ⟨s5, v2, riv3, ?_, u4, st.trans u5, fun x hx => .inr (c8 x hx)⟩
        simp only [leapfrogref18x_Scan_got.v, leapfrogref18x_Scan_got.t, leapfrogref18x_Scan_got.t.p1, sy, reduceIte, Nat.reduceAdd, Nat.reduceLeDiff, Nat.reduceLT, Nat.reduceEqDiff, Int.reduceEq, Int.reduceLT, Int.reduceLE, Int.reduceNe, ly, bxv, hf, ldc_row g1, lda_row g1, hlen, k64, als_eq, rp0, z0, Nat.reduceMul, c1, ldc_row r1, sameII, c2, ldc_row r2, e3, lda_row r3, nk, e4, lda_row r4, u2, u3]
theorem tell_t {n0 : Nat} {c : SC} {m : Sc} {s : St} {p N : Nat} {iv riv : Value} (f : Fresh s) (hb : 0 ≤ c.st.bt) (hN : N ≤ 9000) (h : AtT n0 c m s p N iv riv) (hi : InvSc c m N) (hri : m.ov = false → m.ri = []) (a : Ans) {al : List (List Value)} (hB : Byt s a.v al) {D : Nat} {x : Option Rf} (hc : Chase m.ms.tab m.ms.wl m.ms.wb D (curF m.ms).rk (curF m.ms).n a.r x) (hD : D < BIG) :
    ∃ s' iv' riv', leapfrogref18x_Scan_Tell.v (P p) (.agg ⟨a.cs⟩) s = some (unit', s') ∧ AtT n0 c (tellS c m a al x) s' p (N + 1) iv' riv' ∧ StpK [36, 39, 13] s s' ∧ Prot n0 s s' ∧ (∀ x, own iv' x → own iv x ∨ s.n ≤ x) := by
  unfold tellS
  obtain ⟨xr, sor, msr, d, wv, ws, cf, rows, rrows, g1, g2, g3, g4, g5, g6, g7, g8⟩ := h.ex
  have bxv := hB.bx
  rcases Bool.eq_false_or_eq_true m.ov with ov | ov
  · rw [if_pos (.inl ov)]
    exact ⟨s, iv, riv, by simp only [leapfrogref18x_Scan_Tell.v, leapfrogref18x_Scan_Tell.t, sy, reduceIte, Nat.reduceAdd, Nat.reduceLeDiff, Nat.reduceLT, Nat.reduceEqDiff, Int.reduceEq, Int.reduceLT, Int.reduceLE, Int.reduceNe, ly, bxv, ldc_row g1, ov], h.le (by omega), .refl _ _, .of (.refl [] _) (by simp), fun x hx => .inl hx⟩
  · rcases Bool.eq_false_or_eq_true m.w with w | w
    · rw [if_pos (.inr w)]
      exact ⟨s, iv, riv, by simp only [leapfrogref18x_Scan_Tell.v, leapfrogref18x_Scan_Tell.t, sy, reduceIte, Nat.reduceAdd, Nat.reduceLeDiff, Nat.reduceLT, Nat.reduceEqDiff, Int.reduceEq, Int.reduceLT, Int.reduceLE, Int.reduceNe, ly, bxv, ldc_row g1, ov, w], h.le (by omega), .refl _ _, .of (.refl [] _) (by simp), fun x hx => .inl hx⟩
    · rw [if_neg (by rw [ov, w]; simp)]
      have hrn : riv = nilV := by
        rcases h.ri with h | ⟨h, _⟩
        · exact h
        · rw [ov] at h; cases h
      subst hrn
      have hr := g2.row
      by_cases hsk : m.hs = true ∧ m.so = false
      · rw [if_pos hsk]
        obtain ⟨q1, q2, q3⟩ := g4.sk ov w hsk
        subst q1 q2
        obtain ⟨s1, wv1, ws1, e1, r1, st1, l1⟩ := rtell_f f (by omega) (g2.base f) hi.ms.n0 hi.ms.okw a hc hD
        have st1 : StpR d n0 s s1 := st1
        have kA := StpR.stp g2.row (stpR_any st1)
        have pA := prot_r st1 g2.dn
        have fA := kA.2.2 f
        have gA : TRow s1 p (trow c { m with ms := tellF (c.sk m.sr m.sn) m.ms a x } xr sor d iv nilV) := kA.row g1 (by simp)
        obtain ⟨s2, riv2, t1, t2, t3⟩ := sought_t (m := { m with ms := tellF (c.sk m.sr m.sn) m.ms a x }) (N := N + 1) fA gA (AtN.of r1 rfl fA) (by omega) (inv_tellF hi.okS hi.ms a x) hi.okS (g5.stp kA (by simp)) (g6.stp kA (by simp)) (hri ov) hsk.1 hsk.2
        refine ⟨s2, iv, riv2, ?_, t2, (kA.mono (by simp)).trans (t3.mono (by simp)), pA.trans (.of t3 (by simp)), fun x hx => .inl hx⟩
        simp only [leapfrogref18x_Scan_Tell.v, leapfrogref18x_Scan_Tell.t, sy, reduceIte, Nat.reduceAdd, Nat.reduceLeDiff, Nat.reduceLT, Nat.reduceEqDiff, Int.reduceEq, Int.reduceLT, Int.reduceLE, Int.reduceNe, ly, bxv, ldc_row g1, ov, w, ldc_row hr, q3, e1, t1]
      · rw [if_neg hsk]
        have hh : handS m := ⟨ov, w, hsk⟩
        obtain ⟨mo, hxr, hsor, hso⟩ := g4.hd hh
        subst hxr hsor
        unfold gotS
        rcases Classical.propComplete (a.k = 1) with k1 | k1
        · rw [if_pos (of_eq_true k1)]
          obtain ⟨s1, iv', riv', t1, t2, t3, t4⟩ := has_t f hb h hh (hri ov) (hi.x hh) hi.its hi.okF hi.tr a hB
          exact ⟨s1, iv', riv', by simp only [leapfrogref18x_Scan_Tell.v, leapfrogref18x_Scan_Tell.t, sy, reduceIte, Nat.reduceAdd, Nat.reduceLeDiff, Nat.reduceLT, Nat.reduceEqDiff, Int.reduceEq, Int.reduceLT, Int.reduceLE, Int.reduceNe, ly, bxv, ldc_row g1, ov, w, ldc_row hr, mo, k1, t1], t2.le (by omega), t3.mono (by simp), .of t3 (by simp), t4⟩
        · rw [if_neg (of_eq_false k1)]
          have wait : (a.k = 3 ∧ m.so = true → False) → ∃ s' iv' riv', leapfrogref18x_Scan_Tell.v (P p) (.agg ⟨a.cs⟩) s = some (unit', s') ∧ AtT n0 c { m with w := true } s' p (N + 1) iv' riv' ∧ StpK [36, 39, 13] s s' ∧ Prot n0 s s' ∧ (∀ x, own iv' x → own iv x ∨ s.n ≤ x) := by
            intro hno
            have kp : StpK [36] s (TPut s p (trow c { m with w := true } m.x m.so d iv nilV)) := .put g1 (by simp [kd])
            refine ⟨_, iv, nilV, ?_, ⟨⟨m.x, m.so, msr, d, wv, ws, cf, rows, rrows, put_t g1, g2.stp kp (by simp) (by simp) f.put, by omega, ⟨g4.inv, g4.ok, (fun _ e => by cases e), fun e => by have := e.2.1; cases this⟩, g5.stp kp (by simp), g6.stp kp (by simp), g7.stp kp (by simp), g8.stp kp (by simp)⟩, .inl rfl⟩, kp.mono (by simp), .of kp (by simp), fun x hx => .inl hx⟩
            rcases Classical.propComplete (a.k = 3) with k3 | k3
            · have hso : m.so = false := by cases hb : m.so; rfl; exact (hno ⟨of_eq_true k3, hb⟩).elim
              simp only [leapfrogref18x_Scan_Tell.v, leapfrogref18x_Scan_Tell.t, sy, reduceIte, Nat.reduceAdd, Nat.reduceLeDiff, Nat.reduceLT, Nat.reduceEqDiff, Int.reduceEq, Int.reduceLT, Int.reduceLE, Int.reduceNe, ly, bxv, ldc_row g1, ov, w, ldc_row hr, mo, k1, k3, hso, stv_row g1]
            · simp only [leapfrogref18x_Scan_Tell.v, leapfrogref18x_Scan_Tell.t, sy, reduceIte, Nat.reduceAdd, Nat.reduceLeDiff, Nat.reduceLT, Nat.reduceEqDiff, Int.reduceEq, Int.reduceLT, Int.reduceLE, Int.reduceNe, ly, bxv, ldc_row g1, ov, w, ldc_row hr, mo, k1, k3, stv_row g1]
          by_cases k3 : a.k = 3 ∧ m.so = true
          · rw [if_pos k3]
            obtain ⟨q1, q2⟩ := hso k3.2
            subst q1 q2
            obtain ⟨s1, wv1, ws1, e1, r1, st1, l1⟩ := rdead_f f (by omega) (g2.base f) hi.ms.n0 hi.ms.lki a
            have st1 : StpR d n0 s s1 := st1
            have kA := StpR.stp g2.row (stpR_any st1)
            have pA := prot_r st1 g2.dn
            have fA := kA.2.2 f
            have gA : TRow s1 p (trow c { m with ms := deadF m.ms a, so := false } m.x m.so d iv nilV) := kA.row g1 (by simp)
            obtain ⟨s2, riv2, t1, t2, t3⟩ := sought_t (m := { m with ms := deadF m.ms a, so := false }) (N := N + 1) fA gA (AtN.of r1 rfl fA) (by omega) (inv_deadF hi.ms a) hi.okS (g5.stp kA (by simp)) (g6.stp kA (by simp)) (hri ov) (hi.so k3.2) rfl
            have k3' : (a.k = 3) = True := eq_true k3.1
            refine ⟨s2, iv, riv2, ?_, t2, (kA.mono (by simp)).trans (t3.mono (by simp)), pA.trans (.of t3 (by simp)), fun x hx => .inl hx⟩
            simp only [leapfrogref18x_Scan_Tell.v, leapfrogref18x_Scan_Tell.t, sy, reduceIte, Nat.reduceAdd, Nat.reduceLeDiff, Nat.reduceLT, Nat.reduceEqDiff, Int.reduceEq, Int.reduceLT, Int.reduceLE, Int.reduceNe, ly, bxv, ldc_row g1, ov, w, ldc_row hr, mo, k1, k3', k3.2, e1, t1]
          · rw [if_neg k3]
            exact wait k3
theorem wake_t {n0 : Nat} {c : SC} {m : Sc} {s : St} {p N : Nat} {iv riv : Value} (f : Fresh s) (hb : 0 ≤ c.st.bt) (h : AtT n0 c m s p N iv riv) (hi : InvSc c m N) (hri : m.ov = false → m.ri = []) :
    ∃ s' riv', leapfrogref18x_Scan_Wake.v (P p) s = some (unit', s') ∧ AtT n0 c (wakeS c m) s' p N iv riv' ∧ StT s s' := by
  unfold wakeS
  obtain ⟨xr, sor, msr, d, wv, ws, cf, rows, rrows, g1, g2, g3, g4, g5, g6, g7, g8⟩ := h.ex
  rcases Bool.eq_false_or_eq_true m.ov with ov | ov
  · rw [if_neg (by rw [ov]; simp)]
    exact ⟨s, riv, by simp only [leapfrogref18x_Scan_Wake.v, leapfrogref18x_Scan_Wake.t, sy, reduceIte, Nat.reduceAdd, Nat.reduceLeDiff, Nat.reduceLT, Nat.reduceEqDiff, Int.reduceEq, Int.reduceLT, Int.reduceLE, Int.reduceNe, ly, ldc_row g1, ov], h, .refl _ _⟩
  · rcases Bool.eq_false_or_eq_true m.w with w | w
    · rw [if_pos ⟨ov, w⟩]
      have hrn : riv = nilV := by
        rcases h.ri with h | ⟨h, _⟩
        · exact h
        · rw [ov] at h; cases h
      subst hrn
      obtain ⟨s1, t1, t2, t3⟩ := again_t f hb g1 g2 g3 g4.inv g4.ok g5 g6 (hri ov) hi.okF hi.tr ov
      exact ⟨s1, nilV, by simp only [leapfrogref18x_Scan_Wake.v, leapfrogref18x_Scan_Wake.t, sy, reduceIte, Nat.reduceAdd, Nat.reduceLeDiff, Nat.reduceLT, Nat.reduceEqDiff, Int.reduceEq, Int.reduceLT, Int.reduceLE, Int.reduceNe, ly, ldc_row g1, ov, w, t1], t2, t3⟩
    · rw [if_neg (by rw [w]; simp)]
      exact ⟨s, riv, by simp only [leapfrogref18x_Scan_Wake.v, leapfrogref18x_Scan_Wake.t, sy, reduceIte, Nat.reduceAdd, Nat.reduceLeDiff, Nat.reduceLT, Nat.reduceEqDiff, Int.reduceEq, Int.reduceLT, Int.reduceLE, Int.reduceNe, ly, ldc_row g1, ov, w], h, .refl _ _⟩
theorem next_t {n0 : Nat} {c : SC} {m : Sc} {s : St} {p N : Nat} {iv riv : Value} (h : AtT n0 c m s p N iv riv) :
    leapfrogref18x_Scan_Next.r (P p) s = some (.agg ⟨nextS m riv⟩) ∧ s.get p ≠ none ∧ (∃ X, s.get p = some (.row 36 [X] false) ∧ X[19]? = some (.int .i64 m.tr)) ∧ ∃ rrows, IsR s 2 riv rrows ∧ ItR s rrows m.ri := by
  obtain ⟨xr, sor, msr, d, wv, ws, cf, rows, rrows, g1, g2, g3, g4, g5, g6, g7, g8⟩ := h.ex
  have hr := g2.row
  have bxr := g7.bx
  refine ⟨?_, by unfold TRow at g1; rw [g1]; simp, ⟨_, g1, rfl⟩, rrows, g7, g8⟩
  cases ov : m.ov with
  | true =>
    rw [nextS_ov ov]
    simp only [leapfrogref18x_Scan_Next.r, leapfrogref18x_Scan_Next.t, sy, reduceIte, Nat.reduceAdd, Nat.reduceLeDiff, Nat.reduceLT, Nat.reduceEqDiff, Int.reduceEq, Int.reduceLT, Int.reduceLE, Int.reduceNe, ly, ldc_row g1, lda_row g1, ov, bxr]
  | false =>
    cases w : m.w with
    | true =>
      rw [nextS_w ov w]
      simp only [leapfrogref18x_Scan_Next.r, leapfrogref18x_Scan_Next.t, leapfrogref18x_Scan_Next.t.p2, sy, reduceIte, Nat.reduceAdd, Nat.reduceLeDiff, Nat.reduceLT, Nat.reduceEqDiff, Int.reduceEq, Int.reduceLT, Int.reduceLE, Int.reduceNe, ly, ldc_row g1, ov, w]
    | false =>
      by_cases hsk : m.hs = true ∧ m.so = false
      · rw [nextS_sk ov w hsk]
        obtain ⟨q1, q2, q3⟩ := g4.sk ov w hsk
        subst q1 q2
        have n1 := rnext_r g2.r
        have nc : (∃ k t a r, nextC m.ms = stepC k t a r) := by unfold nextC; split <;> exact ⟨_, _, _, _, rfl⟩
        obtain ⟨k, t, a, r, g⟩ := nc
        rw [g] at n1 ⊢
        simp only [leapfrogref18x_Scan_Next.r, leapfrogref18x_Scan_Next.t, leapfrogref18x_Scan_Next.t.p2, sy, reduceIte, Nat.reduceAdd, Nat.reduceLeDiff, Nat.reduceLT, Nat.reduceEqDiff, Int.reduceEq, Int.reduceLT, Int.reduceLE, Int.reduceNe, ly, ldc_row g1, ov, w, ldc_row hr, q3, n1]
      · rw [nextS_hd ⟨ov, w, hsk⟩]
        obtain ⟨mo, hxr, hsor, hso⟩ := g4.hd ⟨ov, w, hsk⟩
        subst hxr
        simp only [leapfrogref18x_Scan_Next.r, leapfrogref18x_Scan_Next.t, leapfrogref18x_Scan_Next.t.p2, leapfrogref18x_Scan_Next.t.p1, sy, reduceIte, Nat.reduceAdd, Nat.reduceLeDiff, Nat.reduceLT, Nat.reduceEqDiff, Int.reduceEq, Int.reduceLT, Int.reduceLE, Int.reduceNe, ly, ldc_row g1, lda_row g1, ov, w, ldc_row hr, mo]
theorem new_t {s : St} (f : Fresh s) (c : SC) (hb : 0 ≤ c.st.bt) :
    (¬ okC (c.sk 2 0) ∧ ∃ s', leapfrogref18x_New.v (.agg ⟨c.cs⟩) s = some (T2 nilP 180, s')) ∨
    (okC (c.sk 2 0) ∧ ∃ s', leapfrogref18x_New.v (.agg ⟨c.cs⟩) s = some (T2 (P s.n) 0, s') ∧ AtT s.n c (newS c) s' s.n 0 nilV nilV ∧ More s s') := by
  have hok : okC (c.sk 2 0) ↔ okC (c.sk 2 c.low) := by
    constructor
    · intro h; exact okC_next h _ _ (.inl rfl)
    · rintro ⟨h1, h2, h3, h4, h5, _, h7⟩; exact ⟨h1, h2, h3, h4, h5, .inl rfl, h7⟩
  have ar := at2_r c.low s
  obtain ⟨X, hX⟩ : ∃ X : List Value, X = (trow c (mS c) zR false 0 nilV nilV).set 10 nilP := ⟨_, rfl⟩
  simp only [trow, mS, ly] at hX
  have e0 : alv s (.agg ⟨X⟩) = some (P s.n, s.new (.row 36 [X] false)) := by rw [hX]; rfl
  have m1 : More s (s.new (.row 36 [X] false)) := .new
  have r1 : TRow (s.new (.row 36 [X] false)) s.n X := get_new_same
  have n1 : (s.new (.row 36 [X] false)).n = s.n + 1 := rfl
  have f1 := m1.fresh f
  generalize s.new (.row 36 [X] false) = s1 at *
  rw [hX] at e0 r1
  rcases rnew_r s1 (c.sk 2 c.low) hb with ⟨hC, e2⟩ | ⟨hC, e2⟩
  · exact .inl ⟨fun g => hC (hok.1 g), s1, by simp only [leapfrogref18x_New.v, leapfrogref18x_New.t, sy, reduceIte, Nat.reduceAdd, Nat.reduceLeDiff, Nat.reduceLT, Nat.reduceEqDiff, Int.reduceEq, Int.reduceLT, Int.reduceLE, Int.reduceNe, ly, ar, e0, lda_row r1, e2, same2k]⟩
  · refine .inr ⟨hok.2 hC, ?_⟩
    have mo : More s1 (s1.new (.row 39 [rrow (c.sk 2 c.low) (m0 (c.sk 2 c.low)) (.slice none 0 0)] false)) := .new
    have rN : RRow (s1.new (.row 39 [rrow (c.sk 2 c.low) (m0 (c.sk 2 c.low)) (.slice none 0 0)] false)) s1.n (rrow (c.sk 2 c.low) (m0 (c.sk 2 c.low)) (.slice none 0 0)) := get_new_same
    have r2 := mo.get f1 r1
    generalize s1.new (.row 39 [rrow (c.sk 2 c.low) (m0 (c.sk 2 c.low)) (.slice none 0 0)] false) = s2 at *
    have f2 := mo.fresh f1
    have hR2 : AtN s.n (c.sk 2 c.low) (m0 (c.sk 2 c.low)) s2 s1.n (.slice none 0 0) [] := ⟨⟨rN, .inl ⟨rfl, rfl⟩, rfl, more_E0 f2, by simp, Nat.zero_le _⟩, by omega, fun x hx => absurd hx own_nil⟩
    obtain ⟨s3, hs3⟩ : ∃ s3, s3 = TPut s2 s.n (trow c (mS c) zR false s1.n nilV nilV) := ⟨_, rfl⟩
    have e3 : stv s2 1 (.pointer (some ⟨s.n, 0, some 10⟩)) (P s1.n) = some s3 := by rw [hs3]; simp only [stv_row r2, sy, reduceIte, Nat.reduceAdd, Nat.reduceLeDiff, Nat.reduceLT, Nat.reduceEqDiff, Int.reduceEq, Int.reduceLT, Int.reduceLE, Int.reduceNe, ly, mS]
    have r3 : TRow s3 s.n (trow c (mS c) zR false s1.n nilV nilV) := by rw [hs3]; exact put_t r2
    have k3 : StpK [36] s2 s3 := by rw [hs3]; exact .put r2 (by simp [kd])
    have f3 := k3.2.2 f2
    have m3 : More s s3 := by rw [hs3]; exact (m1.trans mo).put (Nat.le_refl _)
    have hR3 := hR2.stp k3 (by simp) (by simp) f3
    rcases Classical.propComplete (c.high < c.low) with kl | kl
    · have e4 := end_t (l := []) (w := nilV) r3 0 rfl
      have kp : ∀ X, StpK [36] s3 (TPut s3 s.n X) := fun X => .put r3 (by simp [kd])
      rw [show newS c = endsS (mS c) 0 [] by unfold newS; rw [if_pos (of_eq_true kl)]]
      exact ⟨_, by simp only [leapfrogref18x_New.v, leapfrogref18x_New.t, sy, reduceIte, Nat.reduceAdd, Nat.reduceLeDiff, Nat.reduceLT, Nat.reduceEqDiff, Int.reduceEq, Int.reduceLT, Int.reduceLE, Int.reduceNe, ly, ar, e0, lda_row r1, e2, lda_row r2, same2k, e3, kl, e4], ⟨⟨zR, false, _, _, _, [], _, [], [], put_t r3, hR3.stp (kp _) (by simp) (by simp) f3.put, Nat.le_refl _, ⟨inv_m0 hC, hC, (fun e => by cases e), fun e => by have := e.1; cases this⟩, .nil, .nil, .nil, .nil⟩, .inl rfl⟩, m3.put (Nat.le_refl _)⟩
    · rw [show newS c = mS c by unfold newS; rw [if_neg (of_eq_false kl)]]
      exact ⟨s3, by simp only [leapfrogref18x_New.v, leapfrogref18x_New.t, sy, reduceIte, Nat.reduceAdd, Nat.reduceLeDiff, Nat.reduceLT, Nat.reduceEqDiff, Int.reduceEq, Int.reduceLT, Int.reduceLE, Int.reduceNe, ly, ar, e0, lda_row r1, e2, lda_row r2, same2k, e3, kl], ⟨⟨zR, false, _, _, _, [], _, [], [], r3, hR3, Nat.le_refl _, ⟨inv_m0 hC, hC, fun _ _ _ => ⟨rfl, rfl, rfl⟩, fun e => absurd ⟨rfl, rfl⟩ e.2.2⟩, .nil, .nil, .nil, .nil⟩, .inl rfl⟩, m3⟩
/-- Two steps that bear the same items. -/
theorem sameStepI_r {s : St} {e : Int} {w w' : Value} {r1 r2 : List (List Value)} {l : List It} (h1 : IsR s 2 w r1) (i1 : ItR s r1 l) (h2 : IsR s 2 w' r2) (i2 : ItR s r2 l) (hl : l.length ≤ 1000) :
    leapfrogref12x_SameStep.r (.agg ⟨stepI e w⟩) (.agg ⟨stepI e w'⟩) s = some (.bool true) := by
  have l1 : lenL w = some (.int .i64 l.length) := by rw [h1.len, i1.1]
  have l2 : lenL w' = some (.int .i64 l.length) := by rw [h2.len, i2.1]
  have x1 := h1.bx
  have x2 := h2.bx
  have b0 : b2s s nilV = some (.string ⟨⟨[]⟩⟩) := rfl
  have loop : iter (leapfrogref12x_SameResult.l4 std) BIG [.int .i64 ((0 : Nat) : Int), .agg ⟨resI e w⟩, .agg ⟨resI e w'⟩] s = some ((0, [], s) : Cut) := by
    refine iter_rel (fun d xs s' => ∃ i : Nat, i + d = l.length ∧ s' = s ∧ xs = [.int .i64 (i : Int), .agg ⟨resI e w⟩, .agg ⟨resI e w'⟩]) (fun y : Option Cut => y = some ((0, [], s) : Cut)) ?_ BIG l.length _ s (by unfold BIG; omega) ⟨0, by omega, rfl, rfl⟩
    rintro d xs s' rec ⟨i, hi, rfl, rfl⟩ ih
    cases d with
    | zero =>
      have e1 : ¬ ((i : Int) < l.length) := by omega
      simp only [leapfrogref12x_SameResult.l4, sy, reduceIte, Nat.reduceAdd, Nat.reduceLeDiff, Nat.reduceLT, Nat.reduceEqDiff, Int.reduceEq, Int.reduceLT, Int.reduceLE, Int.reduceNe, ly, l1, e1]
    | succ d =>
      have e1 : (i : Int) < l.length := by omega
      obtain ⟨it, hit⟩ := get_some (l := l) (j := i) (by omega)
      have e5 : IntKind.i64.wrap ((i : Int) + 1) = ((i + 1 : Nat) : Int) := by rw [wrap64 (by omega) (by omega)]; omega
      obtain ⟨v1, p1, q1⟩ := i1.at hit
      obtain ⟨v2, p2, q2⟩ := i2.at hit
      obtain ⟨o1, al1, ro1, a1, a2, a3⟩ := h1.at p1
      obtain ⟨o2, al2, ro2, c1, c2, c3⟩ := h2.at p2
      obtain ⟨bs, hbs⟩ := q1.ok
      have s1 := q1.b2s bs hbs
      have s2 := q2.b2s bs hbs
      have fin : leapfrogref12x_SameResult.l4 std rec [.int .i64 (i : Int), .agg ⟨resI e w⟩, .agg ⟨resI e w'⟩] s' = rec [.int .i64 ((i + 1 : Nat) : Int), .agg ⟨resI e w⟩, .agg ⟨resI e w'⟩] s' := by
        simp only [leapfrogref12x_SameResult.l4, sy, reduceIte, Nat.reduceAdd, Nat.reduceLeDiff, Nat.reduceLT, Nat.reduceEqDiff, Int.reduceEq, Int.reduceLT, Int.reduceLE, Int.reduceNe, ly, l1, e1, a1, ldc_row a2, a3, c1, ldc_row c2, c3, s1, s2, e5]
      rw [fin]
      exact ih d _ _ (by omega) ⟨i + 1, by omega, rfl, rfl⟩
  rw [show ((0 : Nat) : Int) = 0 from rfl] at loop
  have hr : leapfrogref12x_SameResult.r (.agg ⟨resI e w⟩) (.agg ⟨resI e w'⟩) s = some (.bool true) := by
    simp only [leapfrogref12x_SameResult.r, leapfrogref12x_SameResult.t, sy, reduceIte, Nat.reduceAdd, Nat.reduceLeDiff, Nat.reduceLT, Nat.reduceEqDiff, Int.reduceEq, Int.reduceLT, Int.reduceLE, Int.reduceNe, ly, b0, l1, l2, loop]
  simp only [leapfrogref12x_SameStep.r, leapfrogref12x_SameStep.t, sy, reduceIte, Nat.reduceAdd, Nat.reduceLeDiff, Nat.reduceLT, Nat.reduceEqDiff, Int.reduceEq, Int.reduceLT, Int.reduceLE, Int.reduceNe, ly, hr]
end Go.Proofs.Ytmobdijoaebilaa
