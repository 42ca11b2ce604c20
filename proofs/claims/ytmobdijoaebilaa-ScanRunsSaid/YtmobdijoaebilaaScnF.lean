/-
  The reference's machine of package scan in memory.
-/
import Derived.Test.YtmobdijoaebilaaScnD
set_option linter.unusedSimpArgs false
set_option linter.unusedVariables false
set_option maxRecDepth 100000
set_option maxHeartbeats 2000000
namespace Go.Proofs.Ytmobdijoaebilaa
open Go.Sim Go.Sim.Bt
attribute [local congr] bdc cndc itec gdc gdSc gdUc

abbrev trow (c : SC) (m : Sc) (xr : Rf) (sor : Bool) (d : Nat) (iv riv : Value) : List Value :=
  [.int .i64 c.h, .int .i64 c.st.id, .int .i64 c.st.rk, .int .u64 c.st.n, .int .i64 c.st.ln, .int .u64 c.st.bt, .int .u64 c.low, .int .u64 c.high, .int .i64 m.fr, .int .u64 m.fn, P d, .int .i64 xr.id, .int .i64 xr.rk, .int .u64 xr.n, .int .i64 xr.ln, .int .u64 xr.bt, .bool sor, .bool m.w, iv, .int .i64 m.tr, .bool m.ov,
   .int .i64 m.e, .int .u64 0, nilV, riv, .int .i64 0, .int .i64 0, .int .u64 0, .int .i64 0, .int .u64 0, .int .i64 0, .int .i64 0, .int .u64 0, .int .i64 0, .int .u64 0, .bool false]
abbrev TRow (s : St) (p : Nat) (cs : List Value) : Prop := s.get p = some (.row 36 [cs] false)
abbrev TPut (s : St) (p : Nat) (cs : List Value) : St := s.put p (.row 36 [cs] false)
theorem put_t {s : St} {p : Nat} {X Y : List Value} (h : TRow s p X) : TRow (TPut s p Y) p Y := get_put_same h
/-- The heap below a number. -/
def truncS (s : St) (n0 : Nat) : St := ⟨s.h.filter fun e => decide (e.1 < n0), n0⟩
theorem getH_trunc (n0 : Nat) : ∀ (h : List (Nat × Blk)) (b : Nat), b < n0 → getH (h.filter fun e => decide (e.1 < n0)) b = getH h b
  | [], _, _ => rfl
  | (i, k) :: r, b, hb => by
    by_cases hi : i < n0
    · rw [List.filter_cons_of_pos (by simpa using hi)]
      simp only [getH, getH_trunc n0 r b hb]
    · rw [List.filter_cons_of_neg (by simpa using hi), getH_trunc n0 r b hb]
      simp only [getH]
      rw [if_neg (by omega)]
theorem more_trunc {s : St} {n0 : Nat} (f : Fresh s) (hn : n0 ≤ s.n) : More (truncS s n0) s := ⟨hn, fun b hb => (getH_trunc n0 s.h b hb).symm, fun _ => f⟩
/-- The reference's search, above a number. -/
structure AtN (n0 : Nat) (cf : Cf) (msr : Mm) (s : St) (d : Nat) (wv : Value) (ws : List Wl) : Prop where
  r : AtR cf msr E0 s d wv ws
  dn : n0 ≤ d
  on : ∀ x, own wv x → n0 ≤ x
theorem AtN.row {n0 : Nat} {cf : Cf} {msr : Mm} {s : St} {d : Nat} {wv : Value} {ws : List Wl} (h : AtN n0 cf msr s d wv ws) : RRow s d (rrow cf msr wv) := h.r.row
theorem AtN.stp {ks : List Nat} {n0 : Nat} {cf : Cf} {msr : Mm} {s s' : St} {d : Nat} {wv : Value} {ws : List Wl} (h : AtN n0 cf msr s d wv ws) (k : StpK ks s s') (h1 : 39 ∉ ks) (h2 : 13 ∉ ks) (f : Fresh s') : AtN n0 cf msr s' d wv ws := ⟨h.r.stp k h1 h2 f, h.dn, h.on⟩
theorem AtN.le {n0 : Nat} {cf : Cf} {msr : Mm} {s : St} {d : Nat} {wv : Value} {ws : List Wl} (h : AtN n0 cf msr s d wv ws) (f : Fresh s) : n0 ≤ s.n := by
  have := f.lt h.row; have := h.dn; omega
theorem AtN.base {n0 : Nat} {cf : Cf} {msr : Mm} {s : St} {d : Nat} {wv : Value} {ws : List Wl} (h : AtN n0 cf msr s d wv ws) (f : Fresh s) : AtR cf msr (truncS s n0) s d wv ws := by
  refine ⟨h.r.row, ?_, h.r.tab, more_trunc f (h.le f), h.r.big, h.dn⟩
  rcases h.r.own with g | ⟨o, _, g2, g3⟩
  · exact .inl g
  · exact .inr ⟨o, h.on o ⟨_, _, g2⟩, g2, g3⟩
theorem AtN.of {n0 : Nat} {cf : Cf} {msr : Mm} {s0 s : St} {d : Nat} {wv : Value} {ws : List Wl} (h : AtR cf msr s0 s d wv ws) (hn : s0.n = n0) (f : Fresh s) : AtN n0 cf msr s d wv ws := by
  refine ⟨⟨h.row, ?_, h.tab, more_E0 f, h.big, Nat.zero_le _⟩, by rw [← hn]; exact h.dn, ?_⟩
  · rcases h.own with g | ⟨o, _, g2, g3⟩
    · exact .inl g
    · exact .inr ⟨o, Nat.zero_le _, g2, g3⟩
  · rintro x ⟨l, e, rfl⟩
    rcases h.own with ⟨g, _⟩ | ⟨o, g1, g2, g3⟩
    · cases g
    · cases g2; rw [← hn]; exact g1
/-- Rows of thirteen below the number stay. -/
def Prot (n0 : Nat) (s s' : St) : Prop := ∀ x rows ro, x < n0 → s.get x = some (.row 13 rows ro) → s'.get x = some (.row 13 rows ro)
theorem Prot.of {ks : List Nat} {n0 : Nat} {s s' : St} (k : StpK ks s s') (h : 13 ∉ ks) : Prot n0 s s' := fun x rows ro _ hx => k.row hx h
theorem Prot.trans {n0 : Nat} {s s1 s2 : St} (h : Prot n0 s s1) (k : Prot n0 s1 s2) : Prot n0 s s2 := fun x rows ro hn hx => k x rows ro hn (h x rows ro hn hx)
theorem prot_r {n0 d : Nat} {s s' : St} (k : StpR d n0 s s') (hd : n0 ≤ d) : Prot n0 s s' := fun x rows ro hn hx => k.2.1 x _ hx (by omega) (.inl hn)
theorem stpR_any {d n0 : Nat} {s s' : St} (k : StpR d n0 s s') : StpR d 0 s s' := ⟨k.1, fun x y hx hd hy => k.2.1 x y hx hd (.inr (by rcases hy with h | h; omega; exact h)), k.2.2⟩
/-- What it has beside the program's. -/
structure RelT (c : SC) (m : Sc) (xr : Rf) (sor : Bool) (msr : Mm) (cf : Cf) : Prop where
  inv : InvS msr
  ok : okC cf
  sk : m.ov = false → m.w = false → (m.hs = true ∧ m.so = false) → msr = m.ms ∧ cf = c.sk m.sr m.sn ∧ m.ms.ov = false
  hd : handS m → msr.ov = true ∧ xr = m.x ∧ sor = m.so ∧ (m.so = true → msr = m.ms ∧ cf = c.sk m.sr m.sn)
structure AtT (n0 : Nat) (c : SC) (m : Sc) (s : St) (p N : Nat) (iv riv : Value) : Prop where
  ex : ∃ xr sor msr d wv ws cf rows rrows, TRow s p (trow c m xr sor d iv riv) ∧ AtN n0 cf msr s d wv ws ∧ ws.length ≤ N ∧ RelT c m xr sor msr cf ∧ IsR s 2 iv rows ∧ ItR s rows m.its ∧ IsR s 2 riv rrows ∧ ItR s rrows m.ri
  ri : riv = nilV ∨ (m.ov = true ∧ riv = iv)
abbrev StT (s s' : St) : Prop := StpK [36, 39] s s'
theorem AtT.le {n0 : Nat} {c : SC} {m : Sc} {s : St} {p N N' : Nat} {iv riv : Value} (h : AtT n0 c m s p N iv riv) (hn : N ≤ N') : AtT n0 c m s p N' iv riv := by
  obtain ⟨xr, sor, msr, d, wv, ws, cf, rows, rrows, g1, g2, g3, g4⟩ := h.ex
  exact ⟨⟨xr, sor, msr, d, wv, ws, cf, rows, rrows, g1, g2, by omega, g4⟩, h.ri⟩
theorem AtT.stp {ks : List Nat} {n0 : Nat} {c : SC} {m : Sc} {s s' : St} {p N : Nat} {iv riv : Value} (f : Fresh s) (h : AtT n0 c m s p N iv riv) (k : StpK ks s s') (h1 : 36 ∉ ks) (h2 : 39 ∉ ks) (h3 : 13 ∉ ks) (h4 : 2 ∉ ks) (h5 : 1 ∉ ks) : AtT n0 c m s' p N iv riv := by
  obtain ⟨xr, sor, msr, d, wv, ws, cf, rows, rrows, g1, g2, g3, g4, g5, g6, g7, g8⟩ := h.ex
  exact ⟨⟨xr, sor, msr, d, wv, ws, cf, rows, rrows, k.row g1 h1, g2.stp k h2 h3 (k.2.2 f), g3, g4, g5.stp k h4, g6.stp k h5, g7.stp k h4, g8.stp k h5⟩, h.ri⟩
/-- The program's step leaves it. -/
theorem AtT.sep {n0 : Nat} {c : SC} {m : Sc} {s s' : St} {p N : Nat} {iv riv v v' : Value} (f : Fresh s) (h : AtT n0 c m s p N iv riv) (k : StpI [37, 40, 1000] v v' s s') (hk : StpK [2, 37, 40, 1000] s s') (hs : ∀ x, own iv x → ¬ own v x) : AtT n0 c m s' p N iv riv := by
  obtain ⟨xr, sor, msr, d, wv, ws, cf, rows, rrows, g1, g2, g3, g4, g5, g6, g7, g8⟩ := h.ex
  refine ⟨⟨xr, sor, msr, d, wv, ws, cf, rows, rrows, hk.row g1 (by simp), g2.stp hk (by simp) (by simp) (hk.2.2 f), g3, g4, g5.sep k (by simp) hs, g6.stp hk (by simp), ?_, g8.stp hk (by simp)⟩, h.ri⟩
  rcases h.ri with rfl | ⟨_, rfl⟩
  · rcases g7 with g | ⟨_, _, _, _, e, _⟩
    · exact .inl g
    · cases e
  · exact g7.sep k (by simp) hs
theorem AtT.has {n0 : Nat} {c : SC} {m : Sc} {s : St} {p N : Nat} {iv riv : Value} (h : AtT n0 c m s p N iv riv) : ∀ x, own iv x → ∃ k, s.get x = some k := by
  obtain ⟨xr, sor, msr, d, wv, ws, cf, rows, rrows, g1, g2, g3, g4, g5, _⟩ := h.ex
  rintro x ⟨l, e, rfl⟩
  rcases g5 with ⟨h1, _⟩ | ⟨b, e', _, _, h1, hg, _⟩
  · cases h1
  · cases h1; exact ⟨_, hg⟩
theorem end_t {s : St} {p d : Nat} {c : SC} {m : Sc} {xr : Rf} {sor : Bool} {iv riv : Value} (h : TRow s p (trow c m xr sor d iv riv)) (e : Int) (l : List It) {w : Value} (hw : bx w = some [w]) :
    leapfrogref18x_Scan_end.v (P p) (.agg ⟨resI e w⟩) s = some (unit', TPut s p (trow c (endsS m e l) xr sor d iv w)) := by
  simp only [leapfrogref18x_Scan_end.v, leapfrogref18x_Scan_end.t, sy, reduceIte, Nat.reduceAdd, Nat.reduceLeDiff, Nat.reduceLT, Nat.reduceEqDiff, Int.reduceEq, Int.reduceLT, Int.reduceLE, Int.reduceNe, ly, stv_row h, stv_put h, endsS]
theorem at2_r (n : Int) (s : St) : leapfrogref02x_At.r (.int .u64 n) s = some (KV 2 n) := by
  simp only [leapfrogref02x_At.r, leapfrogref02x_At.t, sy, reduceIte, Nat.reduceAdd, Nat.reduceLeDiff, Nat.reduceLT, Nat.reduceEqDiff, Int.reduceEq, Int.reduceLT, Int.reduceLE, Int.reduceNe, ly]
theorem rnextk_r (n : Int) (s : St) : leapfrogref02x_Next.r (KV 2 n) s = some (.tuple ⟨[KV (nextR n) (nextN n), .bool true]⟩) := by
  have kc := rcheck_r 2 n s
  rw [if_pos (show okK 2 n from .inl rfl)] at kc
  have ar := at2_r (IntKind.u64.wrap (n + 1)) s
  unfold nextR nextN
  rcases Classical.propComplete (n = 18446744073709551615) with k | k
  · simp only [leapfrogref02x_Next.r, leapfrogref02x_Next.t, sy, reduceIte, Nat.reduceAdd, Nat.reduceLeDiff, Nat.reduceLT, Nat.reduceEqDiff, Int.reduceEq, Int.reduceLT, Int.reduceLE, Int.reduceNe, ly, kc, k]
  · simp only [leapfrogref02x_Next.r, leapfrogref02x_Next.t, sy, reduceIte, Nat.reduceAdd, Nat.reduceLeDiff, Nat.reduceLT, Nat.reduceEqDiff, Int.reduceEq, Int.reduceLT, Int.reduceLE, Int.reduceNe, ly, kc, k, ar]
/-- Somebody is taken in hand. -/
theorem hand_t {n0 : Nat} {c : SC} {m : Sc} {s : St} {p N d : Nat} {iv : Value} {xr : Rf} {sor : Bool} {msr : Mm} {wv : Value} {ws : List Wl} {cf : Cf} {rows : List (List Value)} {x : Rf} {so' : Bool} (f : Fresh s)
    (h : TRow s p (trow c m xr sor d iv nilV)) (hR : AtN n0 cf msr s d wv ws) (hN : ws.length ≤ N) (hi : InvS msr) (ok : okC cf) (hI : IsR s 2 iv rows) (hT : ItR s rows m.its) (hri : m.ri = [])
    (hmo : msr.ov = true) (hso : so' = true → m.hs = true ∧ msr = m.ms ∧ cf = c.sk m.sr m.sn) :
    ∃ s' riv', leapfrogref18x_Scan_hand.v (P p) (.agg ⟨x.cs⟩) (.bool so') s = some (unit', s') ∧ AtT n0 c (takesS c m x so') s' p N iv riv' ∧ StT s s' := by
  have l1 := rless_r 2 c.high x.rk x.n s
  have ar := at2_r c.high s
  have kp : ∀ X, StpK [36] s (TPut s p X) := fun X => .put h (by simp [kd])
  have fp : ∀ X, Fresh (TPut s p X) := fun X => f.put
  by_cases k : lessK 2 c.high x.rk x.n
  · rw [decide_eq_true k] at l1
    have e1 := end_t (l := m.its) h 0 hI.bx
    have bxi := hI.bx
    have hrow : TRow (TPut s p (trow c (endsS m 0 m.its) xr sor d iv iv)) p (trow c (takesS c m x so') xr sor d iv iv) := by
      have := put_t h (Y := trow c (endsS m 0 m.its) xr sor d iv iv)
      unfold takesS
      rw [if_pos k]
      exact this
    refine ⟨_, iv, by simp only [leapfrogref18x_Scan_hand.v, leapfrogref18x_Scan_hand.t, sy, reduceIte, Nat.reduceAdd, Nat.reduceLeDiff, Nat.reduceLT, Nat.reduceEqDiff, Int.reduceEq, Int.reduceLT, Int.reduceLE, Int.reduceNe, ly, ldc_row h, ar, l1, bxi, e1], ⟨⟨xr, sor, msr, d, wv, ws, cf, rows, rows, hrow, hR.stp (kp _) (by simp) (by simp) (fp _), hN, ?_, hI.stp (kp _) (by simp), ?_, hI.stp (kp _) (by simp), ?_⟩, .inr ⟨by unfold takesS; rw [if_pos k]; rfl, rfl⟩⟩, (kp _).mono (by simp)⟩
    · unfold takesS
      rw [if_pos k]
      exact ⟨hi, ok, (fun e => by cases e), fun e => by have := e.1; cases this⟩
    · unfold takesS
      rw [if_pos k]
      exact hT.stp (kp _) (by simp)
    · unfold takesS
      rw [if_pos k]
      exact hT.stp (kp _) (by simp)
  · rw [decide_eq_false k] at l1
    have et : takesS c m x so' = { m with x := x, so := so', hs := so' && m.hs } := by unfold takesS; rw [if_neg k]
    rw [et]
    refine ⟨TPut s p (trow c m x so' d iv nilV), nilV, by simp only [leapfrogref18x_Scan_hand.v, leapfrogref18x_Scan_hand.t, sy, reduceIte, Nat.reduceAdd, Nat.reduceLeDiff, Nat.reduceLT, Nat.reduceEqDiff, Int.reduceEq, Int.reduceLT, Int.reduceLE, Int.reduceNe, ly, ldc_row h, ar, l1, stv_row h, stv_put h], ⟨⟨x, so', msr, d, wv, ws, cf, rows, [], put_t h, hR.stp (kp _) (by simp) (by simp) (fp _), hN, ⟨hi, ok, ?_, ?_⟩, hI.stp (kp _) (by simp), hT.stp (kp _) (by simp), .nil, by show ItR _ [] m.ri; rw [hri]; exact .nil⟩, .inl rfl⟩, (kp _).mono (by simp)⟩
    · rintro _ _ ⟨g1, g2⟩
      have g2 : so' = false := g2
      rw [show ({ m with x := x, so := so', hs := so' && m.hs } : Sc).hs = (so' && m.hs) from rfl, g2] at g1
      cases g1
    · intro _
      exact ⟨hmo, rfl, rfl, fun e => (hso e).2⟩
/-- The search may be over. -/
theorem sought_t {n0 : Nat} {c : SC} {m : Sc} {s : St} {p N d : Nat} {iv : Value} {xr : Rf} {sor : Bool} {wv : Value} {ws : List Wl} {rows : List (List Value)} (f : Fresh s)
    (h : TRow s p (trow c m xr sor d iv nilV)) (hR : AtN n0 (c.sk m.sr m.sn) m.ms s d wv ws) (hN : ws.length ≤ N) (hi : InvS m.ms) (ok : okC (c.sk m.sr m.sn)) (hI : IsR s 2 iv rows) (hT : ItR s rows m.its) (hri : m.ri = []) (hs : m.hs = true) (so : m.so = false) :
    ∃ s' riv', leapfrogref18x_Scan_sought.v (P p) s = some (unit', s') ∧ AtT n0 c (foundS c m) s' p N iv riv' ∧ StT s s' := by
  have hr := hR.row
  cases ho : m.ms.ov with
  | false =>
    have e : foundS c m = m := by simp [foundS, ho]
    rw [e]
    exact ⟨s, nilV, by simp only [leapfrogref18x_Scan_sought.v, leapfrogref18x_Scan_sought.t, sy, reduceIte, Nat.reduceAdd, Nat.reduceLeDiff, Nat.reduceLT, Nat.reduceEqDiff, Int.reduceEq, Int.reduceLT, Int.reduceLE, Int.reduceNe, ly, ldc_row h, ldc_row hr, ho], ⟨⟨xr, sor, m.ms, d, wv, ws, _, rows, [], h, hR, hN, ⟨hi, ok, fun _ _ _ => ⟨rfl, rfl, ho⟩, fun e => absurd ⟨hs, so⟩ e.2.2⟩, hI, hT, .nil, by rw [hri]; exact .nil⟩, .inl rfl⟩, .refl _ _⟩
  | true =>
    rcases Classical.propComplete (m.ms.res.e = 0) with k0 | k0
    · have e : foundS c m = takesS c m m.ms.res.r true := by simp [foundS, ho, of_eq_true k0]
      rw [e]
      obtain ⟨s', riv', t1, t2, t3⟩ := hand_t (x := m.ms.res.r) (so' := true) f h hR hN hi ok hI hT hri ho (fun _ => ⟨hs, rfl, rfl⟩)
      exact ⟨s', riv', by simp only [leapfrogref18x_Scan_sought.v, leapfrogref18x_Scan_sought.t, sy, reduceIte, Nat.reduceAdd, Nat.reduceLeDiff, Nat.reduceLT, Nat.reduceEqDiff, Int.reduceEq, Int.reduceLT, Int.reduceLE, Int.reduceNe, ly, ldc_row h, ldc_row hr, lda_row hr, ho, k0, t1], t2, t3⟩
    · have e : foundS c m = endsS m m.ms.res.e [] := by simp [foundS, ho, of_eq_false k0]
      rw [e]
      have e1 := end_t (l := []) (w := nilV) h m.ms.res.e rfl
      have kp : ∀ X, StpK [36] s (TPut s p X) := fun X => .put h (by simp [kd])
      exact ⟨_, nilV, by simp only [leapfrogref18x_Scan_sought.v, leapfrogref18x_Scan_sought.t, sy, reduceIte, Nat.reduceAdd, Nat.reduceLeDiff, Nat.reduceLT, Nat.reduceEqDiff, Int.reduceEq, Int.reduceLT, Int.reduceLE, Int.reduceNe, ly, ldc_row h, ldc_row hr, lda_row hr, ho, k0, e1], ⟨⟨xr, sor, m.ms, d, wv, ws, _, rows, [], put_t h, hR.stp (kp _) (by simp) (by simp) f.put, hN, ⟨hi, ok, (fun e => by cases e), fun e => by have := e.1; cases this⟩, hI.stp (kp _) (by simp), hT.stp (kp _) (by simp), .nil, .nil⟩, .inl rfl⟩, (kp _).mono (by simp)⟩
/-- It seeks again. -/
theorem again_t {n0 : Nat} {c : SC} {m : Sc} {s : St} {p N d : Nat} {iv : Value} {xr : Rf} {sor : Bool} {msr : Mm} {wv : Value} {ws : List Wl} {cf : Cf} {rows : List (List Value)} (f : Fresh s) (hb : 0 ≤ c.st.bt)
    (h : TRow s p (trow c m xr sor d iv nilV)) (hR : AtN n0 cf msr s d wv ws) (hN : ws.length ≤ N) (hi : InvS msr) (ok : okC cf) (hI : IsR s 2 iv rows) (hT : ItR s rows m.its) (hri : m.ri = [])
    (okF : okC (c.sk m.fr m.fn)) (tr : 0 ≤ m.tr) (ov : m.ov = false) :
    ∃ s', leapfrogref18x_Scan_again.v (P p) s = some (unit', s') ∧ AtT n0 c (againS c { m with w := false }) s' p N iv nilV ∧ StT s s' := by
  obtain ⟨s0, hs0⟩ : ∃ s1, s1 = TPut s p (trow c { m with w := false } xr sor d iv nilV) := ⟨_, rfl⟩
  have e0 : stv s 1 (.pointer (some ⟨p, 0, some 17⟩)) (.bool false) = some s0 := by rw [hs0]; simp only [stv_row h, sy, reduceIte, Nat.reduceAdd, Nat.reduceLeDiff, Nat.reduceLT, Nat.reduceEqDiff, Int.reduceEq, Int.reduceLT, Int.reduceLE, Int.reduceNe, ly]
  have h0 : TRow s0 p (trow c { m with w := false } xr sor d iv nilV) := by rw [hs0]; exact put_t h
  have k0 : StpK [36] s s0 := by rw [hs0]; exact .put h (by simp [kd])
  have f0 := k0.2.2 f
  rcases Classical.propComplete (64 ≤ m.tr) with k1 | k1
  · have e1 := end_t (l := []) (w := nilV) h0 121 rfl
    have kp : ∀ X, StpK [36] s0 (TPut s0 p X) := fun X => .put h0 (by simp [kd])
    have ea : againS c { m with w := false } = endsS { m with w := false } 121 [] := by unfold againS; rw [if_pos (show 64 ≤ ({ m with w := false } : Sc).tr from of_eq_true k1)]
    rw [ea]
    refine ⟨_, by simp only [leapfrogref18x_Scan_again.v, leapfrogref18x_Scan_again.t, sy, reduceIte, Nat.reduceAdd, Nat.reduceLeDiff, Nat.reduceLT, Nat.reduceEqDiff, Int.reduceEq, Int.reduceLT, Int.reduceLE, Int.reduceNe, ly, e0, ldc_row h0, k1, e1], ⟨⟨xr, sor, msr, d, wv, ws, cf, rows, [], put_t h0, (hR.stp k0 (by simp) (by simp) f0).stp (kp _) (by simp) (by simp) f0.put, hN, ⟨hi, ok, (fun e => by cases e), fun e => by have := e.1; cases this⟩, (hI.stp k0 (by simp)).stp (kp _) (by simp), (hT.stp k0 (by simp)).stp (kp _) (by simp), .nil, .nil⟩, .inl rfl⟩, ((k0.trans (kp _)).mono (by simp))⟩
  · have k1' : m.tr < 64 := by have := of_eq_false k1; omega
    have ea : againS c { m with w := false } = { m with w := false, tr := m.tr + 1, hs := true, sr := m.fr, sn := m.fn, ms := m0 (c.sk m.fr m.fn), so := false } := by unfold againS; rw [if_neg (show ¬ 64 ≤ ({ m with w := false } : Sc).tr from of_eq_false k1)]
    rw [ea]
    obtain ⟨s1, hs1⟩ : ∃ s1, s1 = TPut s0 p (trow c { m with w := false, tr := m.tr + 1 } xr sor d iv nilV) := ⟨_, rfl⟩
    have ew : IntKind.i64.wrap (m.tr + 1) = m.tr + 1 := wrap64 (by omega) (by omega)
    have e1 : stv s0 1 (.pointer (some ⟨p, 0, some 19⟩)) (.int .i64 (m.tr + 1)) = some s1 := by rw [hs1]; simp only [stv_row h0, sy, reduceIte, Nat.reduceAdd, Nat.reduceLeDiff, Nat.reduceLT, Nat.reduceEqDiff, Int.reduceEq, Int.reduceLT, Int.reduceLE, Int.reduceNe, ly]
    have h1 : TRow s1 p (trow c { m with w := false, tr := m.tr + 1 } xr sor d iv nilV) := by rw [hs1]; exact put_t h0
    have kk1 : StpK [36] s0 s1 := by rw [hs1]; exact .put h0 (by simp [kd])
    have f1 := kk1.2.2 f0
    rcases rnew_r s1 (c.sk m.fr m.fn) hb with ⟨g, _⟩ | ⟨_, e2⟩
    · exact absurd okF g
    have mo : More s1 (s1.new (.row 39 [rrow (c.sk m.fr m.fn) (m0 (c.sk m.fr m.fn)) (.slice none 0 0)] false)) := .new
    have rN : RRow (s1.new (.row 39 [rrow (c.sk m.fr m.fn) (m0 (c.sk m.fr m.fn)) (.slice none 0 0)] false)) s1.n (rrow (c.sk m.fr m.fn) (m0 (c.sk m.fr m.fn)) (.slice none 0 0)) := get_new_same
    have h2 := mo.get f1 h1
    have kk2 : StpK [] s1 (s1.new (.row 39 [rrow (c.sk m.fr m.fn) (m0 (c.sk m.fr m.fn)) (.slice none 0 0)] false)) := .more mo f1
    generalize s1.new (.row 39 [rrow (c.sk m.fr m.fn) (m0 (c.sk m.fr m.fn)) (.slice none 0 0)] false) = s2 at *
    have f2 := kk2.2.2 f1
    have hn0 := hR.le f
    have hns : s.n ≤ s1.n := by have := k0.1; have := kk1.1; omega
    have hR2 : AtN n0 (c.sk m.fr m.fn) (m0 (c.sk m.fr m.fn)) s2 s1.n (.slice none 0 0) [] := ⟨⟨rN, .inl ⟨rfl, rfl⟩, rfl, more_E0 f2, by simp, Nat.zero_le _⟩, by omega, fun x hx => absurd hx own_nil⟩
    obtain ⟨s3, hs3⟩ : ∃ s3, s3 = TPut s2 p (trow c { m with w := false, tr := m.tr + 1 } xr sor s1.n iv nilV) := ⟨_, rfl⟩
    have e3 : stv s2 1 (.pointer (some ⟨p, 0, some 10⟩)) (P s1.n) = some s3 := by rw [hs3]; simp only [stv_row h2, sy, reduceIte, Nat.reduceAdd, Nat.reduceLeDiff, Nat.reduceLT, Nat.reduceEqDiff, Int.reduceEq, Int.reduceLT, Int.reduceLE, Int.reduceNe, ly]
    have h3 : TRow s3 p (trow c { m with w := false, tr := m.tr + 1 } xr sor s1.n iv nilV) := by rw [hs3]; exact put_t h2
    have kk3 : StpK [36] s2 s3 := by rw [hs3]; exact .put h2 (by simp [kd])
    have kall : StpK [36] s s3 := ((k0.trans kk1).trans (kk2.mono (by simp))).trans kk3
    refine ⟨s3, by simp only [leapfrogref18x_Scan_again.v, leapfrogref18x_Scan_again.t, sy, reduceIte, Nat.reduceAdd, Nat.reduceLeDiff, Nat.reduceLT, Nat.reduceEqDiff, Int.reduceEq, Int.reduceLT, Int.reduceLE, Int.reduceNe, ly, e0, ldc_row h0, k1, ew, e1, ldc_row h1, lda_row h1, e2, ldc_row h2, lda_row h2, sameII, same5, same2k, e3], ⟨⟨xr, sor, m0 (c.sk m.fr m.fn), s1.n, _, [], c.sk m.fr m.fn, rows, [], h3, hR2.stp kk3 (by simp) (by simp) (kk3.2.2 f2), Nat.zero_le _, ⟨inv_m0 okF, okF, fun _ _ _ => ⟨rfl, rfl, rfl⟩, fun e => absurd ⟨rfl, rfl⟩ e.2.2⟩, hI.stp kall (by simp), hT.stp kall (by simp), .nil, by show ItR _ [] m.ri; rw [hri]; exact .nil⟩, .inl rfl⟩, kall.mono (by simp)⟩
/-- append([]Item{}, l...), and one more. -/
theorem copy1_t {s : St} {iv : Value} {rows : List (List Value)} (f : Fresh s) (hI : IsR s 2 iv rows) (hl : rows.length ≤ 1000) (r : List Value) :
    ∃ v1 s1 v2 s2, app (s.new (.row 2 [] false)) 2 32 (.slice (some ⟨s.n, 0, some 0⟩) 0 0) iv = some (v1, s1) ∧ app (s1.new (.row 2 [r] false)) 2 32 v1 (.slice (some ⟨s1.n, 0, some 0⟩) 1 2) = some (v2, s2) ∧ IsR s2 2 v2 (rows ++ [r]) ∧ More s s1 ∧ More s s2 ∧ Fresh s1 ∧ Fresh s2 ∧ (∀ x, own v2 x → s.n ≤ x) := by
  have m1 : More s (s.new (.row 2 [] false)) := .new
  have g : (s.new (.row 2 [] false)).get s.n = some (.row 2 [] false) := get_new_same
  have f1 := m1.fresh f
  have hI1 := hI.more m1 f
  have nn : (s.new (.row 2 [] false)).n = s.n + 1 := rfl
  have step1 : ∃ v1 s1, app (s.new (.row 2 [] false)) 2 32 (.slice (some ⟨s.n, 0, some 0⟩) 0 0) iv = some (v1, s1) ∧ More s s1 ∧ Fresh s1 ∧ Ful s.n s1 2 v1 rows := by
    have hlen : lenV iv = some rows.length := by rcases hI with ⟨rfl, rfl⟩ | ⟨b, e, all, ro, rfl, _⟩ <;> rfl
    have hrows : rowsOf (s.new (.row 2 [] false)) 2 rows.length iv = some rows := by
      rcases hI1 with ⟨rfl, rfl⟩ | ⟨b, e, all, ro, rfl, hg, hr⟩
      · rfl
      · rw [rowsOf_row (i := 0) hg (Nat.le_refl _) (by have := congrArg List.length hr; rw [List.length_take] at this; omega)]
        rw [List.drop_zero, hr]
    by_cases h0 : rows.length = 0
    · have e : rows = [] := List.eq_nil_of_length_eq_zero h0
      subst e
      refine ⟨.slice (some ⟨s.n, 0, some 0⟩) 0 0, (s.new (.row 2 [] false)).put s.n (.row 2 [] false), ?_, m1.put (Nat.le_refl _), f1.put, .inr ⟨s.n, 0, Nat.le_refl _, rfl, get_put_same g, .inr rfl⟩⟩
      simp only [List.length_nil] at hlen hrows
      simp only [app, hlen, hrows, g]
      rfl
    · refine ⟨_, _, app_full hlen hrows g (by simp) (by omega) (by omega) (by omega) (by omega), m1.trans .new, f1.new, .inr ⟨s.n + 1, 1, by omega, by rw [Nat.zero_add]; rfl, ?_, .inl rfl⟩⟩
      have := get_new_same (s := s.new (.row 2 [] false)) (x := .row 2 ((([] : List (List Value)).drop 0).take 0 ++ rows) false)
      simpa using this
  obtain ⟨v1, s1, e1, m2, f2, h1⟩ := step1
  have ow : ∀ x, own v1 x → s.n ≤ x := by
    rintro x ⟨l, e, rfl⟩
    rcases h1 with ⟨g1, _⟩ | ⟨b, e', hb, g1, _⟩
    · cases g1
    · cases g1; exact hb
  obtain ⟨v2, s2, e2, m3, h2, f3, _⟩ := push (s0 := s) f2 h1 m2 (by_ := 32) r (by omega) (by omega)
  refine ⟨v1, s1, v2, s2, e1, e2, h2.isR, m2, m3, f2, f3, ?_⟩
  rintro x ⟨l, e, rfl⟩
  rcases h2 with ⟨g1, _⟩ | ⟨b, e', hb, g1, _⟩
  · cases g1
  · cases g1; exact hb
end Go.Proofs.Ytmobdijoaebilaa
