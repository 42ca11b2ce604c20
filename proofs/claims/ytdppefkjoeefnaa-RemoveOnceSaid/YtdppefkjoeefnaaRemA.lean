/-
  The machine of package remove, plainly.
-/
import Derived.Test.YtdppefkjoeefnaaMachK
import Derived.Test.YtdppefkjoeefnaaUnmE
import Derived.Test.YtdppefkjoeefnaaMachB
set_option linter.unusedSimpArgs false
set_option linter.unusedVariables false
set_option maxRecDepth 100000
set_option maxHeartbeats 2000000
namespace Go.Proofs.Ytdppefkjoeefnaa
open Go.Sim Go.Sim.Bt
attribute [local congr] bdc cndc itec gdc gdSc gdUc

/-- The settings. -/
structure RC where
  h : Int
  st : Rf
  key : Int
  oa : Int
  oo : Int
abbrev RC.cs (c : RC) : List Value := [.int .i64 c.h, .int .i64 c.st.id, .int .i64 c.st.rk, .int .u64 c.st.n, .int .i64 c.st.ln, .int .u64 c.st.bt, .int .u64 c.key, .int .i64 c.oa, .int .i64 c.oo]
abbrev RC.sk (c : RC) : Cf := ⟨c.h, c.st, 2, c.key⟩
/-- Where it is: it searches, asks for the mark, leaves a list, or is over. -/
inductive RS where
  | seek (ms : Mm)
  | ask (x : Rf)
  | leave (x : Rf) (lv : Nat) (mu : Un.Mm)
  | over (mk : Bool) (e : Int)
/-- The list of so many bits is left. -/
def cuC (c : RC) (x : Rf) (lv : Nat) : Un.Cf := ⟨(lv : Int), ((x.bt.toNat / 2 ^ (x.ln.toNat - lv) : Nat) : Int), x, c.oa, c.oo⟩
open Classical in
noncomputable def leaveS (x : Rf) (lv : Nat) : RS := if x.rk = 2 ∧ okV x.ln x.bt then .leave x lv Un.m0 else .over true 0
/-- What is behind the search's step. -/
def soughtS (ms : Mm) : RS := if ms.ov = true then (if ms.res.e = 0 then (if ms.res.found = true then .ask ms.res.r else .over false 101) else .over false ms.res.e) else .seek ms
/-- .. behind a list's. -/
noncomputable def leftS (x : Rf) (lv : Nat) (mu : Un.Mm) : RS := if mu.at' = 10 then (if lv = 0 then .over true 0 else if mu.e = 0 then leaveS x (lv - 1) else .over true 0) else .leave x lv mu
noncomputable def tellS (c : RC) (a : Ans) (xo : Option Rf) : RS → RS
  | .seek ms => soughtS (tellF c.sk ms a xo)
  | .ask x => if a.k = 1 then leaveS x x.ln.toNat else if a.k = 3 then .over false 132 else .over false 101
  | .leave x lv mu => leftS x lv (Un.tellC (cuC c x lv) mu a)
  | .over mk e => .over mk e
def wakeS : RS → RS
  | .leave x lv mu => .leave x lv (Un.wakeC mu)
  | m => m
def nextS (c : RC) : RS → List Value
  | .seek ms => nextC ms
  | .ask x => stepC 1 x ⟨9, 0, 0, zR, zR, 0, 0⟩ zRes
  | .leave x lv mu => Un.nextC (cuC c x lv) mu
  | .over _ e => stepC 3 zR zAsk ⟨e, 0, zR, zR, false⟩
def markS : RS → Bool
  | .leave _ _ _ => true
  | .over mk _ => mk
  | _ => false
/-- What holds of the search's result. -/
def FndF (c : Cf) (ms : Mm) : Prop := ms.ov = true → ms.res.e = 0 → ms.res.found = true → ms.res.r.rk = c.tr ∧ ms.res.r.n = c.tn
theorem fnd_busy {c : Cf} {m : Mm} : FndF c (busy m) := fun _ e => by simp [busy] at e
theorem fnd_again {c : Cf} {m : Mm} (h : FndF c m) (ho : m.ov = false) : FndF c (againC c m) := by
  unfold againC
  split
  · exact fnd_busy
  · intro e; rw [show ({ m with n := m.n + 1, ap := headR c.h, wl := c.h, wb := 0, lk := false } : Mm).ov = m.ov from rfl, ho] at e; cases e
theorem fnd_no {c : Cf} {m : Mm} (ho : m.ov = false) : FndF c m := fun e => by rw [ho] at e; cases e
theorem fnd_goes {c : Cf} {m : Mm} (ho : m.ov = false) (x : Option Rf) : FndF c (goesF c m x) := by
  cases x with
  | none => exact fnd_again (fnd_no ho) ho
  | some r =>
    simp only [goesF]
    split
    · exact fnd_no ho
    · split
      · exact fnd_no ho
      · intro _ _ h
        simp only [Bool.and_eq_true, decide_eq_true_eq] at h
        exact h
theorem fnd_tell {c : Cf} {m : Mm} (h : FndF c m) (a : Ans) (x : Option Rf) : FndF c (tellF c m a x) := by
  unfold tellF
  split
  · exact h
  · rename_i ho
    have ho : m.ov = false := by cases hb : m.ov; rfl; exact absurd hb ho
    have hk : ∀ r y, (keepC m r y).ov = false := fun _ _ => ho
    split
    · split
      · split
        · exact fnd_goes ho x
        · split
          · exact fnd_no ho
          · exact fnd_again h ho
      · split
        · exact fnd_again (fnd_no (hk _ _)) (hk _ _)
        · exact fnd_again h ho
    · split
      · exact fnd_goes (m := { m with ap := m.to, lk := false }) ho x
      · split
        · split
          · exact fnd_busy
          · exact fnd_no ho
        · exact fnd_again h ho
/-- No bits below 0. -/
structure PosS (m : Mm) : Prop where
  ap : 0 ≤ m.ap.bt
  to : 0 ≤ m.to.bt
  res : 0 ≤ m.res.r.bt
  tab : ∀ e ∈ m.tab, 0 ≤ e.2.bt
def PosA (a : Ans) : Prop := 0 ≤ a.l.bt ∧ 0 ≤ a.r.bt
def PosX (x : Option Rf) : Prop := ∀ r, x = some r → 0 ≤ r.bt
theorem upd_mem {tab : List (Wk × Rf)} {k : Wk} {r : Rf} {e : Wk × Rf} (h : e ∈ upd tab k r) : e ∈ tab ∨ e.2 = r := by
  unfold upd at h
  split at h
  · rcases List.mem_or_eq_of_mem_set h with h | h
    · exact .inl h
    · exact .inr (by rw [h])
  · rcases List.mem_append.1 h with h | h
    · exact .inl h
    · rw [List.mem_singleton] at h
      exact .inr (by rw [h])
theorem chase_pos {tab : List (Wk × Rf)} {wl wb : Int} {d : Nat} {ar an : Int} {r : Rf} {x : Option Rf} (h : Chase tab wl wb d ar an r x) (ht : ∀ e ∈ tab, 0 ≤ e.2.bt) (hr : 0 ≤ r.bt) : PosX x := by
  induction h with
  | bad _ => intro y hy; cases hy
  | back _ _ => intro y hy; cases hy
  | here _ _ _ => intro y hy; cases hy; exact hr
  | next _ _ _ he _ ih => exact ih (ht _ (List.mem_of_getElem? he))
theorem pos_busy {m : Mm} (h : PosS m) : PosS (busy m) := ⟨h.ap, h.to, Int.le_refl 0, h.tab⟩
theorem pos_again {c : Cf} {m : Mm} (h : PosS m) : PosS (againC c m) := by
  unfold againC
  split
  · exact pos_busy h
  · exact ⟨Int.le_refl 0, h.to, h.res, h.tab⟩
theorem pos_keep {m : Mm} {r x : Rf} (h : PosS m) (hx : 0 ≤ x.bt) : PosS (keepC m r x) :=
  ⟨h.ap, h.to, h.res, fun e he => by rcases upd_mem he with g | g; exact h.tab e g; rw [g]; exact hx⟩
theorem pos_goes {c : Cf} {m : Mm} {x : Option Rf} (h : PosS m) (hx : PosX x) : PosS (goesF c m x) := by
  cases x with
  | none => exact pos_again h
  | some r =>
    have hr := hx r rfl
    simp only [goesF]
    split
    · exact ⟨h.ap, hr, h.res, h.tab⟩
    · split
      · exact ⟨h.ap, h.to, h.res, h.tab⟩
      · exact ⟨h.ap, h.to, hr, h.tab⟩
theorem pos_tell {c : Cf} {m : Mm} {a : Ans} {x : Option Rf} (h : PosS m) (ha : PosA a) (hx : PosX x) : PosS (tellF c m a x) := by
  unfold tellF
  split
  · exact h
  · split
    · split
      · split
        · exact pos_goes h hx
        · split
          · exact ⟨ha.1, h.to, h.res, h.tab⟩
          · exact pos_again h
      · split
        · exact pos_again (pos_keep h ha.2)
        · exact pos_again h
    · split
      · exact pos_goes (m := { m with ap := m.to, lk := false }) ⟨h.to, h.to, h.res, h.tab⟩ hx
      · split
        · split
          · exact pos_busy (pos_keep h ha.2)
          · exact ⟨h.ap, h.to, h.res, (pos_keep (r := m.to) h ha.2).tab⟩
        · exact pos_again h
/-- What holds of it at any time. -/
def InvR (c : RC) (N : Nat) : RS → Prop
  | .seek ms => InvS ms ∧ ms.ov = false ∧ ms.tab.length ≤ N ∧ PosS ms
  | .ask x => x.rk = 2 ∧ x.n = c.key ∧ 0 ≤ x.bt
  | .leave x lv mu => Un.InvM mu ∧ mu.at' ≠ 10 ∧ x.rk = 2 ∧ okV x.ln x.bt ∧ (lv : Int) ≤ x.ln
  | .over _ _ => True
theorem inv_leave {c : RC} {N : Nat} {x : Rf} {lv : Nat} (h : okV x.ln x.bt → (lv : Int) ≤ x.ln) : InvR c N (leaveS x lv) := by
  unfold leaveS
  split
  · rename_i g
    exact ⟨by unfold Un.InvM Un.m0; simp, by simp [Un.m0], g.1, g.2, h g.2⟩
  · trivial
theorem inv_tellS {c : RC} {N : Nat} {m : RS} (hC : okC c.sk) (h : InvR c N m) {a : Ans} (ha : PosA a) {xo : Option Rf} (hx : PosX xo) : InvR c (N + 1) (tellS c a xo m) := by
  cases m with
  | seek ms =>
    obtain ⟨h1, h2, h3, h4⟩ := h
    have i1 := inv_tellF hC h1 a xo
    have i2 := tell_tab (c := c.sk) (m := ms) (a := a) (x := xo)
    have i3 := fnd_tell (fnd_no (c := c.sk) h2) a xo
    have i4 := pos_tell (c := c.sk) h4 ha hx
    show InvR c (N + 1) (soughtS (tellF c.sk ms a xo))
    generalize tellF c.sk ms a xo = m2 at *
    unfold soughtS
    split
    · rename_i ho
      split
      · rename_i he
        split
        · rename_i hf
          have := i3 ho he hf
          exact ⟨this.1, this.2, i4.res⟩
        · trivial
      · trivial
    · rename_i ho
      exact ⟨i1, by cases hb : m2.ov; rfl; exact absurd hb ho, by omega, i4⟩
  | ask x =>
    unfold tellS
    simp only []
    split
    · exact inv_leave fun g => by obtain ⟨n, b, e1, e2, _⟩ := g; rw [e1]; omega
    · split <;> trivial
  | leave x lv mu =>
    obtain ⟨h1, h2, h3, h4, h5⟩ := h
    have i1 := Un.inv_tell (c := cuC c x lv) h1 a
    show InvR c (N + 1) (leftS x lv (Un.tellC (cuC c x lv) mu a))
    generalize Un.tellC (cuC c x lv) mu a = m2 at *
    unfold leftS
    split
    · split
      · trivial
      · split
        · exact inv_leave fun g => by omega
        · trivial
    · rename_i g
      exact ⟨i1, g, h3, h4, h5⟩
  | over mk e => trivial
theorem inv_wakeS {c : RC} {N : Nat} {m : RS} (h : InvR c N m) : InvR c N (wakeS m) := by
  cases m with
  | leave x lv mu =>
    obtain ⟨h1, h2, h3, h4, h5⟩ := h
    refine ⟨Un.inv_wake h1, ?_, h3, h4, h5⟩
    unfold Un.wakeC
    split
    · simp
    · exact h2
  | _ => exact h
theorem InvR.le {c : RC} {N M : Nat} {m : RS} (h : InvR c N m) (hn : N ≤ M) : InvR c M m := by
  cases m with
  | seek ms => exact ⟨h.1, h.2.1, by have := h.2.2.1; omega, h.2.2.2⟩
  | ask x => exact h
  | leave x lv mu => exact h
  | over mk e => trivial
/-- The list's settings may be. -/
theorem ok_cu {c : RC} {x : Rf} {lv : Nat} (hO : okO c.oa c.oo) (h1 : x.rk = 2) (h2 : okV x.ln x.bt) (h3 : (lv : Int) ≤ x.ln) : Un.okC (cuC c x lv) := by
  obtain ⟨n, b, e1, e2, g1, g2⟩ := h2
  have hlv : lv ≤ n := by omega
  have hd : b / 2 ^ (n - lv) < 2 ^ lv := by
    rw [Nat.div_lt_iff_lt_mul (Nat.two_pow_pos _), ← Nat.pow_add]
    rw [show lv + (n - lv) = n by omega]
    exact g2
  refine ⟨h1, ⟨n, b, e1, e2, g1, g2⟩, ⟨lv, b / 2 ^ (n - lv), rfl, ?_, by omega, hd⟩, ⟨by show (lv : Int) ≤ x.ln; omega, ?_⟩, hO⟩
  · show ((x.bt.toNat / 2 ^ (x.ln.toNat - lv) : Nat) : Int) = _
    rw [e1, e2]; rfl
  · show x.bt.toNat / 2 ^ (x.ln.toNat - (lv : Int).toNat) = ((x.bt.toNat / 2 ^ (x.ln.toNat - lv) : Nat) : Int).toNat
    rw [Int.toNat_natCast, Int.toNat_natCast]
/-- Steps that keep all but some blocks. -/
def StpX (B : Nat → Nat → Prop) (s s' : St) : Prop := s.n ≤ s'.n ∧ (∀ x k, s.get x = some k → ¬ B x (kd k) → s'.get x = some k) ∧ (Fresh s → Fresh s')
theorem StpX.refl (B : Nat → Nat → Prop) (s : St) : StpX B s s := ⟨Nat.le_refl _, fun _ _ h _ => h, id⟩
theorem StpX.trans {B : Nat → Nat → Prop} {s s1 s2 : St} (h : StpX B s s1) (k : StpX B s1 s2) : StpX B s s2 :=
  ⟨Nat.le_trans h.1 k.1, fun x y hx hy => k.2.1 x y (h.2.1 x y hx hy) hy, fun f => k.2.2 (h.2.2 f)⟩
theorem StpX.put {B : Nat → Nat → Prop} {s : St} {b : Nat} {k y : Blk} (h : s.get b = some k) (hb : B b (kd k)) : StpX B s (s.put b y) :=
  ⟨Nat.le_refl _, fun x z hx hk => by rw [get_put_ne (fun e => hk (by subst e; rw [h] at hx; cases hx; exact hb))]; exact hx, fun f => f.put⟩
theorem StpX.of {B : Nat → Nat → Prop} {ks : List Nat} {s s' : St} (k : StpK ks s s') (h : ∀ x n, n ∈ ks → B x n) : StpX B s s' := ⟨k.1, fun x y hx hy => k.2.1 x y hx fun g => hy (h _ _ g), k.2.2⟩
theorem StpX.more {B : Nat → Nat → Prop} {s s' : St} (m : More s s') (f : Fresh s) : StpX B s s' := ⟨m.n, fun x k h _ => m.get f h, m.fresh⟩
theorem StpX.but {B : Nat → Nat → Prop} {s s' : St} {b : Nat} {y : Blk} (m : But b s s') (h : s.get b = some y) (hb : B b (kd y)) : StpX B s s' :=
  ⟨by rw [m.2.1]; exact Nat.le_refl _, fun x k hx g => by rw [m.1 x fun e => g (by subst e; rw [h] at hx; cases hx; exact hb)]; exact hx, m.2.2⟩
theorem StpX.mono {B C : Nat → Nat → Prop} {s s' : St} (k : StpX B s s') (h : ∀ x n, B x n → C x n) : StpX C s s' := ⟨k.1, fun x y hx hy => k.2.1 x y hx fun g => hy (h _ _ g), k.2.2⟩
theorem At.stx {B : Nat → Nat → Prop} {c : Cf} {m : Mm} {s s' : St} {b q : Nat} (h : At c m s b q) (k : StpX B s s') (h1 : ¬ B b 40) (h2 : ¬ B q 1000) : At c m s' b q := ⟨k.2.1 b _ h.row h1, k.2.1 q _ h.map h2⟩
end Go.Proofs.Ytdppefkjoeefnaa
