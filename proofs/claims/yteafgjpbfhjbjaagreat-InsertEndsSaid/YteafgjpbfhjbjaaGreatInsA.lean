/-
  The machine of package insert, plainly.
-/
import Derived.Test.YteafgjpbfhjbjaaGreatMachK
import Derived.Test.YteafgjpbfhjbjaaGreatSpmF
import Derived.Test.YteafgjpbfhjbjaaGreatMachE
set_option linter.unusedSimpArgs false
set_option linter.unusedVariables false
set_option maxRecDepth 100000
set_option maxHeartbeats 2000000
namespace Go.Proofs.YteafgjpbfhjbjaaGreat
open Go.Sim Go.Sim.Bt
attribute [local congr] bdc cndc itec gdc gdSc gdUc
structure IC where
  h : Int
  me : Rf
  st : Rf
  oa : Int
  oo : Int
abbrev IC.cs (c : IC) : List Value := [.int .i64 c.h, .int .i64 c.me.id, .int .i64 c.me.rk, .int .u64 c.me.n, .int .i64 c.me.ln, .int .u64 c.me.bt, .int .i64 c.st.id, .int .i64 c.st.rk, .int .u64 c.st.n, .int .i64 c.st.ln, .int .u64 c.st.bt, .int .i64 c.oa, .int .i64 c.oo]
abbrev IC.sk (c : IC) : Cf := ⟨c.h, c.st, c.me.rk, c.me.n⟩
abbrev IC.sh (c : IC) : Cf := ⟨c.h, headR c.h, c.me.rk, c.me.n⟩
def bitsI (c : IC) (lv : Nat) : Int := ((c.me.bt.toNat / 2 ^ (c.me.ln.toNat - lv) : Nat) : Int)
def cfS (c : IC) (lv : Nat) (fr : Rf) : Sp.Cf := ⟨(lv : Int), bitsI c lv, c.me, fr, c.oa, c.oo⟩
def okI (c : IC) : Prop := okC c.sk ∧ c.me.rk = 2 ∧ okV c.me.ln c.me.bt ∧ c.me.ln = c.h ∧ okO c.oa c.oo
theorem ok_sh {c : IC} (h : okI c) : okC c.sh := by
  obtain ⟨⟨h1, h2, h3, h4, h5, h6, h7⟩, k1, k2, k3, k4⟩ := h
  have h1 : 0 ≤ c.h := h1
  have h2 : c.h ≤ 32 := h2
  exact ⟨h1, h2, .inr ⟨.inl rfl, rfl⟩, ⟨c.h.toNat, 0, by show c.h = _; omega, rfl, by omega, Nat.two_pow_pos _⟩, rfl, h6, h7⟩
theorem bits_lt {c : IC} {lv : Nat} (h : okV c.me.ln c.me.bt) (hl : (lv : Int) ≤ c.me.ln) : c.me.bt.toNat / 2 ^ (c.me.ln.toNat - lv) < 2 ^ lv := by
  obtain ⟨n, b, e1, e2, g1, g2⟩ := h
  rw [e1, e2, Int.toNat_natCast, Int.toNat_natCast, Nat.div_lt_iff_lt_mul (Nat.two_pow_pos _), ← Nat.pow_add, show lv + (n - lv) = n by omega]
  exact g2
theorem ok_cf {c : IC} (h : okI c) {lv : Nat} (hl : (lv : Int) ≤ c.h) {fr : Rf} (h1 : okK fr.rk fr.n) (h2 : lessK fr.rk fr.n c.me.rk c.me.n) : Sp.okC (cfS c lv fr) := by
  obtain ⟨_, k1, k2, k3, k4⟩ := h
  have hb := bits_lt k2 (lv := lv) (by omega)
  have k2' := k2
  obtain ⟨n, b, e1, e2, g1, g2⟩ := k2'
  refine ⟨k1, ⟨k2, ⟨lv, _, rfl, rfl, by omega, hb⟩, by show (lv : Int) ≤ c.me.ln; omega, ?_⟩, h1, h2, k4⟩
  show c.me.bt.toNat / 2 ^ (c.me.ln.toNat - (lv : Int).toNat) = (bitsI c lv).toNat
  unfold bitsI
  rw [Int.toNat_natCast, Int.toNat_natCast]
theorem head_ok {c : IC} (h : c.me.rk = 2) : okK (headR c.h).rk (headR c.h).n ∧ lessK (headR c.h).rk (headR c.h).n c.me.rk c.me.n := by
  refine ⟨.inr ⟨.inl rfl, rfl⟩, ?_⟩
  unfold lessK headR
  left; show (1 : Int) < c.me.rk; omega
inductive IS where
  | seek (cf : Cf) (ms : Mm) (n : Int)
  | splice (lv : Nat) (cf : Sp.Cf) (mp : Sp.Mm) (n : Int)
  | walk (lv : Nat) (on : Rf) (n : Int)
  | join
  | over (e : Int)
def spliceI (c : IC) (lv : Nat) (fr : Rf) (n : Int) : IS := .splice lv (cfS c lv fr) (Sp.m0 (cfS c lv fr)) n
def upI (c : IC) (lv : Nat) (n : Int) : IS := if (lv : Int) = c.h then .join else .walk (lv + 1) c.me n
def splicedI (c : IC) (lv : Nat) (n e : Int) : IS :=
  if e = 0 ∨ (e = 133 ∧ 0 < lv) then upI c lv n
  else if e = 131 then (if lv = 0 then (if 64 ≤ n then .over 121 else .seek c.sh (m0 c.sh) (n + 1)) else spliceI c lv (headR c.h) n)
  else .over e
def soughtI (c : IC) (n : Int) (cf : Cf) (ms : Mm) : IS := if ms.ov = true then (if ms.res.e = 0 then spliceI c 0 ms.res.l n else .over ms.res.e) else .seek cf ms n
def settleI (c : IC) (lv : Nat) (cf : Sp.Cf) (n : Int) (mp : Sp.Mm) : IS := if mp.at' = 10 then splicedI c lv n mp.res.e else .splice lv cf mp n
def sameI5 (a b : Rf) : Bool := decide (a.id = b.id) && (decide (a.rk = b.rk) && (decide (a.n = b.n) && (decide (a.ln = b.ln) && decide (a.bt = b.bt))))
open Classical in
noncomputable def walkedI (c : IC) (lv : Nat) (on : Rf) (n : Int) (a : Ans) : IS :=
  if a.k = 3 ∧ sameI5 on c.me = true then .over 132
  else if a.k = 1 ∧ okK a.l.rk a.l.n ∧ lessK a.l.rk a.l.n on.rk on.n then (if a.l.rk = 1 ∨ BG a.l.ln a.l.bt lv (bitsI c lv) then spliceI c lv a.l n else .walk lv a.l n)
  else spliceI c lv (headR c.h) n
noncomputable def tellI (c : IC) (a : Ans) (xo : Option Rf) : IS → IS
  | .seek cf ms n => soughtI c n cf (tellF cf ms a xo)
  | .splice lv cf mp n => settleI c lv cf n (Sp.tellC cf mp a)
  | .walk lv on n => walkedI c lv on n a
  | .join => if a.k = 3 then .over 132 else .over 0
  | .over e => .over e
def wakeI : IS → IS
  | .splice lv cf mp n => .splice lv cf (Sp.wakeC mp) n
  | m => m
def nextI (c : IC) : IS → List Value
  | .seek _ ms _ => nextC ms
  | .splice _ cf mp _ => Sp.nextC cf mp
  | .walk lv on _ => stepC 1 on ⟨1, ((lv - 1 : Nat) : Int), bitsI c (lv - 1), zR, zR, 0, 0⟩ zRes
  | .join => stepC 1 c.me ⟨10, 0, 0, zR, zR, 0, 0⟩ zRes
  | .over e => stepC 3 zR zAsk ⟨e, 0, zR, zR, false⟩
theorem chase_ok {tab : List (Wk × Rf)} {wl wb : Int} {d : Nat} {ar an : Int} {r : Rf} {x : Option Rf} (h : Chase tab wl wb d ar an r x) : ∀ y, x = some y → okK y.rk y.n := by
  induction h with
  | bad _ => intro y hy; cases hy
  | back _ _ => intro y hy; cases hy
  | here h1 _ _ => intro y hy; cases hy; exact h1
  | next _ _ _ he _ ih => exact ih
structure LowS (c : Cf) (m : Mm) : Prop where
  ap : okK m.ap.rk m.ap.n
  to : m.lk = true → okK m.to.rk m.to.n ∧ lessK m.to.rk m.to.n c.tr c.tn
  res : m.ov = true → m.res.e = 0 → okK m.res.l.rk m.res.l.n ∧ lessK m.res.l.rk m.res.l.n c.tr c.tn
theorem low_busy {c : Cf} {m : Mm} (h : LowS c m) : LowS c (busy m) := ⟨h.ap, h.to, fun _ e => by simp [busy] at e⟩
theorem low_again {c : Cf} {m : Mm} (h : LowS c m) (ho : m.ov = false) : LowS c (againC c m) := by
  unfold againC
  split
  · exact low_busy h
  · exact ⟨.inr ⟨.inl rfl, rfl⟩, fun e => (by cases e), fun e => by rw [show ({ m with n := m.n + 1, ap := headR c.h, wl := c.h, wb := 0, lk := false } : Mm).ov = m.ov from rfl, ho] at e; cases e⟩
theorem low_keep {c : Cf} {m : Mm} (h : LowS c m) (r x : Rf) : LowS c (keepC m r x) := ⟨h.ap, h.to, h.res⟩
theorem low_goes {c : Cf} {m : Mm} (h : LowS c m) (ho : m.ov = false) (hl : lessK m.ap.rk m.ap.n c.tr c.tn) {x : Option Rf} (hx : ∀ y, x = some y → okK y.rk y.n) : LowS c (goesF c m x) := by
  cases x with
  | none => exact low_again h ho
  | some r =>
    have hr := hx r rfl
    simp only [goesF]
    split
    · rename_i hlt
      exact ⟨h.ap, fun _ => ⟨hr, hlt⟩, fun e => by rw [show ({ m with lk := true, to := r } : Mm).ov = m.ov from rfl, ho] at e; cases e⟩
    · split
      · exact ⟨h.ap, fun e => (by cases e), fun e => by rw [show ({ m with wl := m.wl - 1, wb := ((m.wb.toNat / 2 : Nat) : Int), lk := false } : Mm).ov = m.ov from rfl, ho] at e; cases e⟩
      · exact ⟨h.ap, h.to, fun _ _ => ⟨h.ap, hl⟩⟩
theorem low_tell {c : Cf} {m : Mm} (h : LowS c m) (a : Ans) {x : Option Rf} (hx : ∀ y, x = some y → okK y.rk y.n) : LowS c (tellF c m a x) := by
  unfold tellF
  split
  · exact h
  · rename_i ho
    have ho : m.ov = false := by cases hb : m.ov; rfl; exact absurd hb ho
    have no : ∀ {m2 : Mm}, m2.ov = m.ov → m2.ov = true → False := fun e1 e2 => by rw [e1, ho] at e2; cases e2
    split
    · split
      · split
        · rename_i hlt
          exact low_goes h ho hlt hx
        · split
          · rename_i g
            exact ⟨g.1, h.to, fun e => (no rfl e).elim⟩
          · exact low_again h ho
      · split
        · exact low_again (low_keep h _ _) ho
        · exact low_again h ho
    · rename_i hk
      have hk : m.lk = true := by cases hb : m.lk; exact absurd hb hk; rfl
      obtain ⟨t1, t2⟩ := h.to hk
      split
      · exact low_goes (m := { m with ap := m.to, lk := false }) ⟨t1, fun e => (by cases e), fun e => (no rfl e).elim⟩ ho t2 hx
      · split
        · split
          · exact low_busy (low_keep h _ _)
          · exact ⟨h.ap, fun e => (by cases e), fun e => (no rfl e).elim⟩
        · exact low_again h ho
def InvI (c : IC) (N : Nat) : IS → Prop
  | .seek cf ms n => okC cf ∧ cf.tr = c.me.rk ∧ cf.tn = c.me.n ∧ InvS ms ∧ ms.ov = false ∧ ms.tab.length ≤ N ∧ LowS cf ms ∧ 0 ≤ n
  | .splice lv cf mp n => Sp.InvM mp ∧ mp.at' ≠ 10 ∧ (lv : Int) ≤ c.h ∧ 0 ≤ n ∧ cf.me = c.me
  | .walk lv on n => 1 ≤ lv ∧ (lv : Int) ≤ c.h ∧ (on = c.me ∨ lessK on.rk on.n c.me.rk c.me.n) ∧ 0 ≤ n
  | .join => True
  | .over _ => True
theorem InvI.le {c : IC} {N M : Nat} {m : IS} (h : InvI c N m) (hn : N ≤ M) : InvI c M m := by
  cases m with
  | seek cf ms n => obtain ⟨a1, a2, a3, a4, a5, a6, a7⟩ := h; exact ⟨a1, a2, a3, a4, a5, by omega, a7⟩
  | splice lv cf mp n => exact h
  | walk lv on n => exact h
  | join => trivial
  | over e => trivial
theorem inv_spliceI {c : IC} {N lv : Nat} {fr : Rf} {n : Int} (hl : (lv : Int) ≤ c.h) (hn : 0 ≤ n) : InvI c N (spliceI c lv fr n) :=
  ⟨by unfold Sp.InvM Sp.m0; simp, by simp [Sp.m0], hl, hn, rfl⟩
theorem low_m0 {c : Cf} (h : okC c) : LowS c (m0 c) := ⟨h.2.2.1, fun e => (by cases e), fun e => (by cases e)⟩
theorem inv_splicedI {c : IC} {N lv : Nat} {n e : Int} (hC : okI c) (hl : (lv : Int) ≤ c.h) (hn : 0 ≤ n) : InvI c N (splicedI c lv n e) := by
  unfold splicedI upI
  split
  · split
    · trivial
    · exact ⟨by omega, by omega, .inl rfl, hn⟩
  · split
    · split
      · split
        · trivial
        · exact ⟨ok_sh hC, rfl, rfl, inv_m0 (ok_sh hC), rfl, Nat.zero_le _, low_m0 (ok_sh hC), by omega⟩
      · exact inv_spliceI hl hn
    · trivial
theorem inv_tellI {c : IC} {N : Nat} {m : IS} (hC : okI c) (h : InvI c N m) (a : Ans) {xo : Option Rf} (hx : ∀ y, xo = some y → okK y.rk y.n) : InvI c (N + 1) (tellI c a xo m) := by
  cases m with
  | seek cf ms n =>
    obtain ⟨a1, a2, a3, a4, a5, a6, a7, a8⟩ := h
    have i1 := inv_tellF a1 a4 a xo
    have i2 := tell_tab (c := cf) (m := ms) (a := a) (x := xo)
    have i3 := low_tell a7 a hx
    show InvI c (N + 1) (soughtI c n cf (tellF cf ms a xo))
    generalize tellF cf ms a xo = m2 at *
    unfold soughtI
    split
    · split
      · exact inv_spliceI (by have := hC.1.1; show ((0 : Nat) : Int) ≤ c.h; omega) a8
      · trivial
    · rename_i ho
      exact ⟨a1, a2, a3, i1, by cases hb : m2.ov; rfl; exact absurd hb ho, by omega, i3, a8⟩
  | splice lv cf mp n =>
    obtain ⟨a1, a2, a3, a4, a5⟩ := h
    have i1 := Sp.inv_tell (c := cf) a1 a
    show InvI c (N + 1) (settleI c lv cf n (Sp.tellC cf mp a))
    generalize Sp.tellC cf mp a = m2 at *
    unfold settleI
    split
    · exact inv_splicedI hC a3 a4
    · rename_i g
      exact ⟨i1, g, a3, a4, a5⟩
  | walk lv on n =>
    obtain ⟨a1, a2, a3, a4⟩ := h
    show InvI c (N + 1) (walkedI c lv on n a)
    unfold walkedI
    split
    · trivial
    · split
      · rename_i g
        split
        · exact inv_spliceI a2 a4
        · refine ⟨a1, a2, .inr ?_, a4⟩
          rcases a3 with rfl | a3
          · exact g.2.2
          · exact lessK_trans g.2.2 a3
      · exact inv_spliceI a2 a4
  | join => unfold tellI; simp only []; split <;> trivial
  | over e => trivial
theorem inv_wakeI {c : IC} {N : Nat} {m : IS} (h : InvI c N m) : InvI c N (wakeI m) := by
  cases m with
  | splice lv cf mp n =>
    obtain ⟨a1, a2, a3, a4, a5⟩ := h
    refine ⟨Sp.inv_wake a1, ?_, a3, a4, a5⟩
    unfold Sp.wakeC
    split
    · simp
    · exact a2
  | _ => exact h
theorem Sp.At.stk {c : Sp.Cf} {m : Sp.Mm} {s s' : St} {b : Nat} {ks : List Nat} (h : Sp.At c m s b) (k : StpK ks s s') (h1 : 44 ∉ ks) (h2 : 5 ∉ ks) (h3 : 1 ∉ ks) (h4 : 15 ∉ ks) : Sp.At c m s' b := by
  obtain ⟨lp, fv, g1, g2, g3⟩ := h
  refine ⟨lp, fv, k.row g1 h1, ?_, fun e => ?_⟩
  · cases hm : m.last with
    | none => rw [hm] at g2; exact g2
    | some q =>
      rw [hm] at g2
      obtain ⟨d, ro, q1, q2⟩ := g2
      exact ⟨d, ro, q1, k.row q2 h2⟩
  · have g3 := g3 e
    cases hm : m.th with
    | no => rw [hm] at g3; exact g3
    | fin r =>
      rw [hm] at g3
      rcases g3 with ⟨qs, qe, e, q0, q1, q2, q3⟩ | ⟨qs, qr, q1, q2, q3⟩
      · exact .inl ⟨qs, qe, e, q0, q1, k.row q2 h3, k.row q3 h3⟩
      · exact .inr ⟨qs, qr, q1, k.row q2 h3, k.row q3 h4⟩
    | wait => rw [hm] at g3; obtain ⟨qs, q1, q2⟩ := g3; exact ⟨qs, q1, k.row q2 h3⟩
    | next => rw [hm] at g3; obtain ⟨qs, q1, q2⟩ := g3; exact ⟨qs, q1, k.row q2 h3⟩
    | ex => rw [hm] at g3; obtain ⟨qs, q1, q2⟩ := g3; exact ⟨qs, q1, k.row q2 h3⟩
theorem Sp.Stp.stk {c : Sp.Cf} {m : Sp.Mm} {s s' : St} {b : Nat} (h : Sp.At c m s b) (f : Fresh s) (k : Sp.Stp b s s') : StpK [44] s s' := by
  obtain ⟨lp, fv, g1, _⟩ := h
  refine ⟨k.1, fun x y hx hy => ?_, k.2.2⟩
  exact k.get f hx (by rintro rfl; unfold Sp.Row at g1; rw [hx] at g1; cases g1; simp [kd] at hy)
end Go.Proofs.YteafgjpbfhjbjaaGreat
