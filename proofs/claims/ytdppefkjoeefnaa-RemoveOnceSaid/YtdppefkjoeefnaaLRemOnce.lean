/-
  RemoveOnce, over abstract values.
-/
import Derived.Test.YtdppefkjoeefnaaRemE
import Derived.Test.YtdppefkjoeefnaaUnmF
set_option linter.unusedSimpArgs false
set_option linter.unusedVariables false
set_option maxRecDepth 100000
set_option maxHeartbeats 2000000
namespace Go.Proofs.Ytdppefkjoeefnaa
open Go.Sim Go.Sim.Bt
attribute [local congr] bdc cndc itec gdc gdSc gdUc
namespace RemoveOnce

theorem alive_r (s : St) : leapfroglaw16x_awakeC.r s = some (.bool true) := rfl
abbrev rowsR (l : List Rf) : List (List Value) := l.map Rf.cs
theorem rf_get {l : List Rf} {j : Nat} {r : Rf} (h : l[j]? = some r) : (rowsR l)[j]? = some r.cs := by rw [List.getElem?_map, h]; rfl
/-- A row without one. -/
theorem drop_r {s : St} {v : Value} {l : List Rf} (f : Fresh s) (h : IsR s 5 v (rowsR l)) (r : Rf) (hl : l.length ≤ 1000) :
    ∃ u s', leapfroglaw16x_drop.v v (.agg ⟨r.cs⟩) s = some (u, s') ∧ More s s' ∧ Fresh s' ∧ Ful s.n s' 5 u (rowsR (l.filter fun x => !Un.eqR x r)) := by
  have hloop : ∃ u s', iter (leapfroglaw16x_drop.l3 std) BIG [v, .slice none 0 0, Value.int .i64 ((0 : Nat) : Int), .agg ⟨r.cs⟩] s = some ((0, [u], s') : Cut) ∧ More s s' ∧ Fresh s' ∧ Ful s.n s' 5 u (rowsR (l.filter fun x => !Un.eqR x r)) := by
    refine iter_rel (fun d xs s' => ∃ j u, j + d = l.length ∧ More s s' ∧ Fresh s' ∧ Ful s.n s' 5 u (rowsR ((l.take j).filter fun x => !Un.eqR x r)) ∧ xs = [v, u, Value.int .i64 (j : Int), .agg ⟨r.cs⟩])
      (fun x : Option Cut => ∃ u s', x = some ((0, [u], s') : Cut) ∧ More s s' ∧ Fresh s' ∧ Ful s.n s' 5 u (rowsR (l.filter fun x => !Un.eqR x r))) ?_ BIG l.length _ s (by unfold BIG; omega) ⟨0, _, by omega, .refl _, f, .inl ⟨rfl, rfl⟩, rfl⟩
    rintro d xs s' rec ⟨j, u, hj, hk, hf, ho, rfl⟩ ih
    have h' := h.more hk f
    have hlen := h'.len
    rw [List.length_map] at hlen
    cases d with
    | zero =>
      have e1 : ¬ ((j : Int) < l.length) := by omega
      rw [List.take_of_length_le (by omega)] at ho
      exact ⟨u, s', by simp only [leapfroglaw16x_drop.l3, sy, reduceIte, Nat.reduceAdd, Nat.reduceLeDiff, Nat.reduceLT, Nat.reduceEqDiff, Int.reduceEq, Int.reduceLT, Int.reduceLE, Int.reduceNe, ly, hlen, e1], hk, hf, ho⟩
    | succ d =>
      have e1 : (j : Int) < l.length := by omega
      obtain ⟨x, hx⟩ := get_some (show j < l.length by omega)
      obtain ⟨b, al, ro, i1, i2, i3⟩ := h'.at (rf_get hx)
      have e5 : IntKind.i64.wrap ((j : Int) + 1) = ((j + 1 : Nat) : Int) := by rw [wrap64 (by omega) (by omega)]; omega
      have htk : l.take (j + 1) = l.take j ++ [x] := by rw [List.take_add_one, hx]; rfl
      by_cases hq : Un.eqR x r = true
      · have hq' := hq
        unfold Un.eqR at hq'
        have e6 : ((l.take (j + 1)).filter fun x => !Un.eqR x r) = ((l.take j).filter fun x => !Un.eqR x r) := by rw [htk]; simp [hq]
        simp only [leapfroglaw16x_drop.l3, sy, reduceIte, Nat.reduceAdd, Nat.reduceLeDiff, Nat.reduceLT, Nat.reduceEqDiff, Int.reduceEq, Int.reduceLT, Int.reduceLE, Int.reduceNe, ly, hlen, e1, i1, lda_row i2, i3, hq', e5]
        exact ih d _ _ (by omega) ⟨j + 1, u, by omega, hk, hf, by rw [e6]; exact ho, rfl⟩
      · have hq' := hq
        unfold Un.eqR at hq'
        have e6 : ((l.take (j + 1)).filter fun x => !Un.eqR x r) = ((l.take j).filter fun x => !Un.eqR x r) ++ [x] := by rw [htk]; simp [hq]
        have hfl : ((l.take j).filter fun x => !Un.eqR x r).length ≤ 1000 := by
          have := List.length_filter_le (fun x => !Un.eqR x r) (l.take j)
          rw [List.length_take] at this
          omega
        obtain ⟨u', s2, g1, g2, g3, g4, _⟩ := push hf ho hk (by_ := 40) x.cs (by rw [List.length_map]; omega) (by rw [List.length_map]; omega)
        have e7 : rowsR ((l.take j).filter fun x => !Un.eqR x r) ++ [x.cs] = rowsR ((l.take (j + 1)).filter fun x => !Un.eqR x r) := by rw [e6]; simp [rowsR]
        rw [e7] at g3
        simp only [leapfroglaw16x_drop.l3, sy, reduceIte, Nat.reduceAdd, Nat.reduceLeDiff, Nat.reduceLT, Nat.reduceEqDiff, Int.reduceEq, Int.reduceLT, Int.reduceLE, Int.reduceNe, ly, hlen, e1, i1, lda_row i2, i3, hq', e5, als_eq, Nat.zero_lt_succ, Nat.reduceMul, g1]
        exact ih d _ _ (by omega) ⟨j + 1, u', by omega, g2, g4, g3, rfl⟩
  obtain ⟨u, s', g1, g2, g3, g4⟩ := hloop
  rw [show ((0 : Nat) : Int) = 0 from rfl] at g1
  exact ⟨u, s', by simp only [leapfroglaw16x_drop.v, leapfroglaw16x_drop.t, sy, reduceIte, Nat.reduceAdd, Nat.reduceLeDiff, Nat.reduceLT, Nat.reduceEqDiff, Int.reduceEq, Int.reduceLT, Int.reduceLE, Int.reduceNe, ly, g1], g2, g3, g4⟩

/-! ### What holds behind a step -/

def heldS (c : RC) : RS → List Rf
  | .leave x lv mu => Un.held (cuC c x lv) mu
  | _ => []
def LowS (c : RC) : RS → Prop
  | .leave x lv mu => Un.Low (cuC c x lv) mu
  | _ => True
def MkS (k : Int) : RS → Prop
  | .seek _ => k = 0
  | .ask _ => k = 0
  | _ => True
def LaS (la : Int) : RS → Prop
  | .seek _ => la = 99
  | .ask _ => la = 99
  | .leave _ lv _ => (lv : Int) ≤ la
  | _ => True
theorem held_m0 {c : RC} {x : Rf} {lv : Nat} : heldS c (leaveS x lv) = [] := by unfold leaveS; split <;> rfl
theorem low_m0 {c : RC} {x : Rf} {lv : Nat} : LowS c (leaveS x lv) := by
  unfold leaveS
  split
  · show Un.Low (cuC c x lv) Un.m0
    unfold Un.Low Un.m0
    simp
  · trivial
theorem la_m0 {la : Int} {x : Rf} {lv : Nat} (h : okV x.ln x.bt → (lv : Int) ≤ la) : LaS la (leaveS x lv) := by
  unfold leaveS
  split
  · rename_i g; exact h g.2
  · trivial
theorem mk_m0 {k : Int} {x : Rf} {lv : Nat} : MkS k (leaveS x lv) := by unfold leaveS; split <;> trivial
theorem held_left {c : RC} {x : Rf} {lv : Nat} {mu : Un.Mm} : heldS c (leftS x lv mu) = Un.held (cuC c x lv) mu := by
  unfold leftS
  split
  · rename_i h
    have e : Un.held (cuC c x lv) mu = [] := by unfold Un.held; rw [if_neg (by omega), if_neg (by omega)]
    rw [e]
    split
    · rfl
    · split
      · exact held_m0
      · rfl
  · rfl
theorem low_left {c : RC} {x : Rf} {lv : Nat} {mu : Un.Mm} (h : Un.Low (cuC c x lv) mu) : LowS c (leftS x lv mu) := by
  unfold leftS
  split
  · split
    · trivial
    · split
      · exact low_m0
      · trivial
  · exact h
theorem la_left {la : Int} {x : Rf} {lv : Nat} {mu : Un.Mm} (h : (lv : Int) ≤ la) : LaS la (leftS x lv mu) := by
  unfold leftS
  split
  · split
    · trivial
    · split
      · exact la_m0 fun _ => by omega
      · trivial
  · exact h
theorem mk_left {k : Int} {x : Rf} {lv : Nat} {mu : Un.Mm} : MkS k (leftS x lv mu) := by
  unfold leftS
  split
  · split
    · trivial
    · split
      · exact mk_m0
      · trivial
  · trivial
theorem AtP.sty {B : Nat → Nat → Prop} {c : RC} {s s' : St} {p b q U : Nat} {m : RS} (h : AtP c s p b q U m) (k : StpX B s s') (h1 : ∀ x, ¬ B x 20) (h2 : ∀ x, ¬ B x 40) (h3 : ∀ x, ¬ B x 1000) (h4 : ∀ x, ¬ B x 22) : AtP c s' p b q U m := by
  cases m with
  | seek ms => exact ⟨k.2.1 _ _ h.1 (h1 _), h.2.stx k (h2 _) (h3 _)⟩
  | ask x => exact k.2.1 _ _ h (h1 _)
  | leave x lv mu => exact ⟨k.2.1 _ _ h.1 (h1 _), k.2.1 _ _ h.2 (h4 _)⟩
  | over mk e => obtain ⟨pl, x, lv, g⟩ := h; exact ⟨pl, x, lv, k.2.1 _ _ g (h1 _)⟩
theorem ful_stx {B : Nat → Nat → Prop} {s s' : St} {v : Value} {rows : List (List Value)} (h : Ful 0 s 5 v rows) (k : StpX B s s') (h1 : ∀ x, ¬ B x 5) : Ful 0 s' 5 v rows := by
  rcases h with h | ⟨b, e, g0, g1, hg, he⟩
  · exact .inl h
  · exact .inr ⟨b, e, g0, g1, k.2.1 _ _ hg (h1 _), he⟩
/-- Ahead of an answer. -/
structure Pre (c : RC) (v : Value) (l : List Ans) (p j : Nat) (m : RS) (hv : Value) (H : List Rf) (s : St) : Prop where
  ex : ∃ b q U, AtP c s p b q U m
  inv : InvR c j m
  low : LowS c m
  ho : Ful 0 s 5 hv (rowsR H)
  ha : IsA s v l
  bd : ∃ n0, ∀ b i len e, v = .slice (some ⟨b, i, some 0⟩) len e → b < n0
  pos : ∀ (j : Nat) a, l[j]? = some a → PosA a
  fr : Fresh s
theorem Pre.stx {B : Nat → Nat → Prop} {c : RC} {v : Value} {l : List Ans} {p j : Nat} {m : RS} {hv hv' : Value} {H H' : List Rf} {s s' : St} (h : Pre c v l p j m hv H s) (k : StpX B s s') (h1 : ∀ x, ¬ B x 20) (h2 : ∀ x, ¬ B x 40) (h3 : ∀ x, ¬ B x 1000) (h4 : ∀ x, ¬ B x 22) (h5 : ∀ x, ¬ B x 13) (ho : Ful 0 s' 5 hv' (rowsR H')) : Pre c v l p j m hv' H' s' := by
  obtain ⟨b, q, U, g⟩ := h.ex
  obtain ⟨n0, hn⟩ := h.bd
  exact ⟨⟨b, q, U, AtP.sty g k h1 h2 h3 h4⟩, h.inv, h.low, ho, h.ha.stx hn k (fun x _ => h5 x), h.bd, h.pos, k.2.2 h.fr⟩
/-- The answer is told. -/
theorem Pre.tell {c : RC} {v : Value} {l : List Ans} {p j : Nat} {m : RS} {hv : Value} {H : List Rf} {s : St} (hC : okC c.sk) (hO : okO c.oa c.oo) (hj : j ≤ 80000) (h : Pre c v l p j m hv H s) {a : Ans} (ha : PosA a) :
    ∃ s' xo, remove_Remove_Tell.v (P p) (.agg ⟨a.cs⟩) s = some (unit', s') ∧ Pre c v l p (j + 1) (tellS c a xo m) hv H s' := by
  obtain ⟨xo, hx, px⟩ := has_ex h.inv (by omega) ha
  obtain ⟨b, q, U, g⟩ := h.ex
  obtain ⟨n0, hn⟩ := h.bd
  obtain ⟨s1, U1, e1, p1, k1, u1⟩ := tell_p h.fr hC hO g h.inv a hx
  refine ⟨s1, xo, e1, ⟨b, q, U1, p1⟩, inv_tellS hC h.inv ha px, ?_, ful_stx h.ho k1 (by intro x; simp), h.ha.stx hn k1 (by intro x _; simp), h.bd, h.pos, k1.2.2 h.fr⟩
  have hl := h.low
  have hi := h.inv
  cases m with
  | seek ms =>
    show LowS c (soughtS (tellF c.sk ms a xo))
    unfold soughtS
    repeat' split
    all_goals trivial
  | ask x =>
    unfold tellS
    simp only []
    split
    · exact low_m0
    · split <;> trivial
  | leave x lv mu => exact low_left (Un.low_tell hi.1 hl a)
  | over mk e => trivial
structure Here (c : RC) (v : Value) (l : List Ans) (p j : Nat) (mk la : Int) (hv : Value) (s : St) : Prop where
  ex : ∃ m, Pre c v l p j m hv (heldS c m) s ∧ MkS mk m ∧ LaS la m
/-- An ask whose answer turns nothing of the law's own. -/
theorem quiet {c : RC} {v : Value} {l : List Ans} {p j : Nat} {m : RS} {hv : Value} {H : List Rf} {s : St} (hC : okC c.sk) (hO : okO c.oa c.oo) (hj : j < 300) (h : Pre c v l p j m hv H s) {a : Ans} (hla : l[j]? = some a) {mk la : Int}
    (hH : ∀ xo, heldS c (tellS c a xo m) = H) (hm : ∀ xo, MkS mk (tellS c a xo m)) (hl : ∀ xo, LaS la (tellS c a xo m)) :
    ∃ q s', idx s 13 v (.int .i64 (j : Int)) = some q ∧ lda s 13 q = some (.agg ⟨a.cs⟩) ∧ remove_Remove_Tell.v (P p) (.agg ⟨a.cs⟩) s = some (unit', s') ∧ Here c v l p (j + 1) mk la hv s' := by
  obtain ⟨q, q1, q2⟩ := h.ha.load hla
  obtain ⟨s', xo, t1, t2⟩ := h.tell hC hO (by omega) (h.pos j a hla)
  exact ⟨q, s', q1, q2, t1, ⟨tellS c a xo m, by rw [hH xo]; exact t2, hm xo, hl xo⟩⟩
theorem filt1 {a b : Rf} (h : Un.eqR a b = false) : ([a, b].filter fun x => !Un.eqR x b) = [a] := by
  have := Un.eqR_refl b
  simp [h, this]

abbrev XS (v : Value) (p : Nat) (mk la : Int) (hv : Value) (j : Nat) (c : RC) : List Value := [v, P p, .int .i64 mk, .int .i64 la, hv, .int .i64 (j : Int), .agg ⟨c.cs⟩]
theorem step {c : RC} {v : Value} {l : List Ans} {p j : Nat} {mk la : Int} {hv : Value} {s : St} (hC : okC c.sk) (hO : okO c.oa c.oo) (h : Here c v l p j mk la hv s) (hj : j < 300) {a : Ans} (hla : l[j]? = some a) (rec : List Value → St → Option Cut) :
    ∃ mk' la' hv' s', leapfroglaw16x_RemoveOnce.l9 std rec (XS v p mk la hv j c) s = rec (XS v p mk' la' hv' (j + 1) c) s' ∧ Here c v l p (j + 1) mk' la' hv' s' := by
  obtain ⟨m, G, hm, hl⟩ := h.ex
  obtain ⟨b, q, U, g⟩ := G.ex
  have n1 := next_p g G.inv
  have mp := marked_p g
  have hjl : j < l.length := (List.getElem?_eq_some_iff.1 hla).1
  have e1 : (j : Int) < l.length := by omega
  have e2 : (j : Int) < 300 := by omega
  have e5 : IntKind.i64.wrap ((j : Int) + 1) = ((j + 1 : Nat) : Int) := by rw [wrap64 (by omega) (by omega)]; omega
  have hlen := G.ha.len
  have hvl := G.ho.isR.len
  rw [List.length_map] at hvl
  cases m with
  | seek ms =>
    obtain ⟨i1, i2, i3, i4⟩ := G.inv
    have hm : mk = 0 := hm
    have hl : la = 99 := hl
    obtain ⟨q0, s', q1, q2, t1, H⟩ := quiet (mk := mk) (la := la) hC hO hj G hla (H := []) (by
      intro xo
      show heldS c (soughtS (tellF c.sk ms a xo)) = []
      unfold soughtS
      repeat' split
      all_goals rfl) (by
      intro xo
      show MkS mk (soughtS (tellF c.sk ms a xo))
      unfold soughtS
      repeat' split
      all_goals first | exact hm | trivial) (by
      intro xo
      show LaS la (soughtS (tellF c.sk ms a xo))
      unfold soughtS
      repeat' split
      all_goals first | exact hl | trivial)
    rw [show nextS c (.seek ms) = stepC 1 (if ms.lk = true then ms.to else ms.ap) ⟨1, ms.wl, ms.wb, zR, zR, 0, 0⟩ zRes by simp [nextS, nextC, i2]] at n1
    generalize (if ms.lk = true then ms.to else ms.ap) = t at n1
    exact ⟨mk, la, hv, s', by simp only [leapfroglaw16x_RemoveOnce.l9, leapfroglaw16x_RemoveOnce.l9.p1, leapfroglaw16x_RemoveOnce.l9.p2, leapfroglaw16x_RemoveOnce.l9.p3, XS, sy, reduceIte, Nat.reduceAdd, Nat.reduceLeDiff, Nat.reduceLT, Nat.reduceEqDiff, Int.reduceEq, Int.reduceLT, Int.reduceLE, Int.reduceNe, ly, hlen, e1, e2, n1, stepC, q1, q2, t1, e5], H⟩
  | ask x =>
    obtain ⟨i1, i2, i3⟩ := G.inv
    have hm : mk = 0 := hm
    have hl : la = 99 := hl
    subst hm
    obtain ⟨q0, s', q1, q2, t1, H⟩ := quiet (mk := 1) (la := la) hC hO hj G hla (H := []) (by
      intro xo
      unfold tellS
      simp only []
      split
      · exact held_m0
      · split <;> rfl) (by
      intro xo
      unfold tellS
      simp only []
      split
      · exact mk_m0
      · split <;> trivial) (by
      intro xo
      unfold tellS
      simp only []
      split
      · exact la_m0 fun g => by obtain ⟨n, d, w1, w2, w3, _⟩ := g; omega
      · split <;> trivial)
    have at2 : leapfrogref02x_At.r (.int .u64 c.key) s = some (KV 2 c.key) := by simp only [leapfrogref02x_At.r, leapfrogref02x_At.t, sy, reduceIte, Nat.reduceAdd, Nat.reduceLeDiff, Nat.reduceLT, Nat.reduceEqDiff, Int.reduceEq, Int.reduceLT, Int.reduceLE, Int.reduceNe, ly]
    have k1 : (x.rk = 2) = True := eq_true i1
    have k2 : (x.n = c.key) = True := eq_true i2
    have w1 : IntKind.i64.wrap (0 + 1) = 1 := rfl
    rw [show nextS c (.ask x) = stepC 1 x ⟨9, 0, 0, zR, zR, 0, 0⟩ zRes from rfl] at n1
    exact ⟨1, la, hv, s', by simp only [leapfroglaw16x_RemoveOnce.l9, leapfroglaw16x_RemoveOnce.l9.p1, leapfroglaw16x_RemoveOnce.l9.p2, leapfroglaw16x_RemoveOnce.l9.p3, XS, neb_agg, sy, reduceIte, Nat.reduceAdd, Nat.reduceLeDiff, Nat.reduceLT, Nat.reduceEqDiff, Int.reduceEq, Int.reduceLT, Int.reduceLE, Int.reduceNe, ly, hlen, e1, e2, n1, stepC, w1, at2, k1, k2, q1, q2, t1, e5], H⟩
  | leave x lv mu =>
    obtain ⟨i1, i2, i3, i4, i5⟩ := G.inv
    have hl : (lv : Int) ≤ la := hl
    have low : Un.Low (cuC c x lv) mu := G.low
    have i1' := i1
    obtain ⟨j1, j2, j3, j4, j5⟩ := i1'
    have tl : ∀ xo, tellS c a xo (.leave x lv mu) = leftS x lv (Un.tellC (cuC c x lv) mu a) := fun _ => rfl
    have h2 : ∀ xo, mu.at' ≤ 8 → heldS c (tellS c a xo (.leave x lv mu)) = Un.held2 (cuC c x lv) mu a := fun xo h8 => by rw [tl, held_left, Un.held_tell i1 a h8]
    have hmk : ∀ k xo, MkS k (tellS c a xo (.leave x lv mu)) := fun k xo => by rw [tl]; exact mk_left
    have hla' : ∀ k : Int, (lv : Int) ≤ k → ∀ xo, LaS k (tellS c a xo (.leave x lv mu)) := fun k hk xo => by rw [tl]; exact la_left hk
    have mk1 : markS (.leave x lv mu) = true := rfl
    rw [mk1] at mp
    have hp : mu.at' = 1 ∨ mu.at' = 2 ∨ mu.at' = 3 ∨ mu.at' = 4 ∨ mu.at' = 5 ∨ mu.at' = 6 ∨ mu.at' = 7 ∨ mu.at' = 8 ∨ mu.at' = 9 := by omega
    have hme := Un.eqR_refl x
    have hpp := Un.eqR_refl mu.p
    have hcm : (cuC c x lv).me = x := rfl
    -- asks that turn nothing of the law's own
    have still : ∀ {K : Int} {T r : Rf} {o : Bool}, mu.at' ≤ 8 → Un.nextC (cuC c x lv) mu = Un.askC (cuC c x lv) K T r o → (K = 1 ∨ K = 5 ∨ K = 6 ∨ (K = 3 ∧ a.k ≠ 1)) → Un.held2 (cuC c x lv) mu a = heldS c (.leave x lv mu) →
        ∃ mk' la' hv' s', leapfroglaw16x_RemoveOnce.l9 std rec (XS v p mk la hv j c) s = rec (XS v p mk' la' hv' (j + 1) c) s' ∧ Here c v l p (j + 1) mk' la' hv' s' := by
      intro K T r o h8 hnx hK hH
      obtain ⟨q0, s', q1, q2, t1, H⟩ := quiet (mk := mk) (la := la) hC hO hj G hla (fun xo => by rw [h2 xo h8]; exact hH) (hmk mk) (hla' la hl)
      rw [show nextS c (.leave x lv mu) = Un.nextC (cuC c x lv) mu from rfl, hnx] at n1
      unfold Un.askC at n1
      rcases hK with rfl | rfl | rfl | ⟨rfl, hk⟩
      · exact ⟨mk, la, hv, s', by simp only [leapfroglaw16x_RemoveOnce.l9, leapfroglaw16x_RemoveOnce.l9.p1, leapfroglaw16x_RemoveOnce.l9.p2, leapfroglaw16x_RemoveOnce.l9.p3, XS, sy, reduceIte, Nat.reduceAdd, Nat.reduceLeDiff, Nat.reduceLT, Nat.reduceEqDiff, Int.reduceEq, Int.reduceLT, Int.reduceLE, Int.reduceNe, ly, hlen, e1, e2, n1, stepC, mp, q1, q2, t1, e5], H⟩
      · exact ⟨mk, la, hv, s', by simp only [leapfroglaw16x_RemoveOnce.l9, leapfroglaw16x_RemoveOnce.l9.p1, leapfroglaw16x_RemoveOnce.l9.p2, leapfroglaw16x_RemoveOnce.l9.p3, XS, sy, reduceIte, Nat.reduceAdd, Nat.reduceLeDiff, Nat.reduceLT, Nat.reduceEqDiff, Int.reduceEq, Int.reduceLT, Int.reduceLE, Int.reduceNe, ly, hlen, e1, e2, n1, stepC, mp, q1, q2, t1, e5], H⟩
      · exact ⟨mk, la, hv, s', by simp only [leapfroglaw16x_RemoveOnce.l9, leapfroglaw16x_RemoveOnce.l9.p1, leapfroglaw16x_RemoveOnce.l9.p2, leapfroglaw16x_RemoveOnce.l9.p3, XS, sy, reduceIte, Nat.reduceAdd, Nat.reduceLeDiff, Nat.reduceLT, Nat.reduceEqDiff, Int.reduceEq, Int.reduceLT, Int.reduceLE, Int.reduceNe, ly, hlen, e1, e2, n1, stepC, mp, q1, q2, t1, e5], H⟩
      · obtain ⟨b1, k1, rows, ro, a1, a2, a3⟩ := G.ha.at hla
        have q2' := q2
        rw [q1] at a1
        cases a1
        exact ⟨mk, la, hv, s', by simp only [leapfroglaw16x_RemoveOnce.l9, leapfroglaw16x_RemoveOnce.l9.p1, leapfroglaw16x_RemoveOnce.l9.p2, leapfroglaw16x_RemoveOnce.l9.p3, XS, sy, reduceIte, Nat.reduceAdd, Nat.reduceLeDiff, Nat.reduceLT, Nat.reduceEqDiff, Int.reduceEq, Int.reduceLT, Int.reduceLE, Int.reduceNe, ly, hlen, e1, e2, n1, stepC, mp, q1, ldc_row a2, a3, hk, q2, t1, e5], H⟩
    -- a lock that is got
    have lock : ∀ {T r : Rf} {o : Bool}, mu.at' ≤ 8 → Un.nextC (cuC c x lv) mu = Un.askC (cuC c x lv) 3 T r o → a.k = 1 → Un.held2 (cuC c x lv) mu a = heldS c (.leave x lv mu) ++ [T] → (heldS c (.leave x lv mu)).length ≤ 2 →
        ∃ mk' la' hv' s', leapfroglaw16x_RemoveOnce.l9 std rec (XS v p mk la hv j c) s = rec (XS v p mk' la' hv' (j + 1) c) s' ∧ Here c v l p (j + 1) mk' la' hv' s' := by
      intro T r o h8 hnx hk hH hl2
      obtain ⟨hv', s1, g1, g2, g3, g4, g5⟩ := push (s0 := E0) G.fr G.ho (more_E0 G.fr) (by_ := 40) T.cs (by rw [List.length_map]; omega) (by rw [List.length_map]; omega)
      have kx : StpX (fun _ k => k = 5) s s1 := StpX.of g5 fun x n hn => by simpa using hn
      have e7 : rowsR (heldS c (.leave x lv mu)) ++ [T.cs] = rowsR (heldS c (.leave x lv mu) ++ [T]) := by simp [rowsR]
      rw [e7] at g3
      have G2 := G.stx kx (by simp) (by simp) (by simp) (by simp) (by simp) g3
      obtain ⟨q0, s', q1, q2, t1, H⟩ := quiet (mk := mk) (la := la) hC hO hj G2 hla (fun xo => by rw [h2 xo h8]; exact hH) (hmk mk) (hla' la hl)
      rw [show nextS c (.leave x lv mu) = Un.nextC (cuC c x lv) mu from rfl, hnx] at n1
      unfold Un.askC at n1
      obtain ⟨b1, k1, rows, ro, a1, a2, a3⟩ := G.ha.at hla
      exact ⟨mk, la, hv', s', by simp only [leapfroglaw16x_RemoveOnce.l9, leapfroglaw16x_RemoveOnce.l9.p1, leapfroglaw16x_RemoveOnce.l9.p2, leapfroglaw16x_RemoveOnce.l9.p3, XS, sy, reduceIte, Nat.reduceAdd, Nat.reduceLeDiff, Nat.reduceLT, Nat.reduceEqDiff, Int.reduceEq, Int.reduceLT, Int.reduceLE, Int.reduceNe, ly, hlen, e1, e2, n1, stepC, mp, a1, ldc_row a2, a3, hk, als_eq, Nat.zero_lt_succ, Nat.reduceMul, g1, q1, q2, t1, e5], H⟩
    -- a lock that is given back
    have back : ∀ {K : Int} {T r : Rf} {o : Bool}, mu.at' ≤ 8 → Un.nextC (cuC c x lv) mu = Un.askC (cuC c x lv) K T r o → (K = 4 ∨ K = 8) → Un.held2 (cuC c x lv) mu a = (heldS c (.leave x lv mu)).filter (fun y => !Un.eqR y T) → (heldS c (.leave x lv mu)).length ≤ 2 →
        ∃ mk' la' hv' s', leapfroglaw16x_RemoveOnce.l9 std rec (XS v p mk la hv j c) s = rec (XS v p mk' la' hv' (j + 1) c) s' ∧ Here c v l p (j + 1) mk' la' hv' s' := by
      intro K T r o h8 hnx hK hH hl2
      obtain ⟨hv', s1, g1, g2, g3, g4⟩ := drop_r G.fr G.ho.isR T (by omega)
      have kx : StpX (fun _ k => k = 5) s s1 := StpX.more g2 G.fr
      have G2 := G.stx kx (by simp) (by simp) (by simp) (by simp) (by simp) (g4.le (Nat.zero_le _))
      rw [show nextS c (.leave x lv mu) = Un.nextC (cuC c x lv) mu from rfl, hnx] at n1
      unfold Un.askC at n1
      rcases hK with rfl | rfl
      · obtain ⟨q0, s', q1, q2, t1, H⟩ := quiet (mk := mk) (la := la) hC hO hj G2 hla (fun xo => by rw [h2 xo h8]; exact hH) (hmk mk) (hla' la hl)
        exact ⟨mk, la, hv', s', by simp only [leapfroglaw16x_RemoveOnce.l9, leapfroglaw16x_RemoveOnce.l9.p1, leapfroglaw16x_RemoveOnce.l9.p2, leapfroglaw16x_RemoveOnce.l9.p3, XS, sy, reduceIte, Nat.reduceAdd, Nat.reduceLeDiff, Nat.reduceLT, Nat.reduceEqDiff, Int.reduceEq, Int.reduceLT, Int.reduceLE, Int.reduceNe, ly, hlen, e1, e2, n1, stepC, mp, g1, q1, q2, t1, e5], H⟩
      · obtain ⟨q0, s', q1, q2, t1, H⟩ := quiet (mk := mk) (la := (lv : Int)) hC hO hj G2 hla (fun xo => by rw [h2 xo h8]; exact hH) (hmk mk) (hla' lv (Int.le_refl _))
        have e9 : ¬ (la < (lv : Int)) := by omega
        have hwl : (cuC c x lv).wl = (lv : Int) := rfl
        rw [hwl] at n1
        exact ⟨mk, lv, hv', s', by simp only [leapfroglaw16x_RemoveOnce.l9, leapfroglaw16x_RemoveOnce.l9.p1, leapfroglaw16x_RemoveOnce.l9.p2, leapfroglaw16x_RemoveOnce.l9.p3, XS, sy, reduceIte, Nat.reduceAdd, Nat.reduceLeDiff, Nat.reduceLT, Nat.reduceEqDiff, Int.reduceEq, Int.reduceLT, Int.reduceLE, Int.reduceNe, ly, hlen, e1, e2, n1, stepC, mp, e9, g1, q1, q2, t1, e5], H⟩
    rcases hp with hp | hp | hp | hp | hp | hp | hp | hp | hp
    · exact still (K := 1) (T := x) (by omega) (by simp [Un.nextC, hp]; rfl) (.inl rfl) (by simp [heldS, Un.held, Un.held2, hp])
    · by_cases hk : a.k = 1
      · exact lock (T := mu.p) (by omega) (by simp [Un.nextC, hp]; rfl) hk (by simp [heldS, Un.held, Un.held2, hp, hk]) (by simp [heldS, Un.held, hp])
      · exact still (K := 3) (T := mu.p) (by omega) (by simp [Un.nextC, hp]; rfl) (.inr (.inr (.inr ⟨rfl, hk⟩))) (by simp [heldS, Un.held, Un.held2, hp, hk])
    · by_cases hk : a.k = 1
      · exact lock (T := x) (by omega) (by simp [Un.nextC, hp]; rfl) hk (by simp [heldS, Un.held, Un.held2, hp, hk, hcm]) (by simp [heldS, Un.held, hp])
      · exact still (K := 3) (T := x) (by omega) (by simp [Un.nextC, hp]; rfl) (.inr (.inr (.inr ⟨rfl, hk⟩))) (by simp [heldS, Un.held, Un.held2, hp, hk])
    · exact still (K := 5) (T := mu.p) (by omega) (by simp [Un.nextC, hp]; rfl) (.inr (.inl rfl)) (by simp [heldS, Un.held, Un.held2, hp])
    · exact still (K := 6) (T := mu.q) (by omega) (by simp [Un.nextC, hp]; rfl) (.inr (.inr (.inl rfl))) (by simp [heldS, Un.held, Un.held2, hp])
    · have hx := Un.eqR_less (low (by omega))
      exact back (K := 8) (T := x) (by omega) (by simp [Un.nextC, hp]; rfl) (.inr rfl) (by simp [heldS, Un.held, Un.held2, hp, hcm, hx, hme]; rw [hcm] at hx; simp [hx, hme]) (by simp [heldS, Un.held, hp])
    · have hx := Un.eqR_less (low (by omega))
      exact back (K := 4) (T := x) (by omega) (by simp [Un.nextC, hp]; rfl) (.inl rfl) (by simp [heldS, Un.held, Un.held2, hp, hcm, hx, hme]; rw [hcm] at hx; simp [hx, hme]) (by simp [heldS, Un.held, hp])
    · exact back (K := 4) (T := mu.p) (by omega) (by simp [Un.nextC, hp]; rfl) (.inl rfl) (by simp [heldS, Un.held, Un.held2, hp, hpp]) (by simp [heldS, Un.held, hp])
    · rw [show nextS c (.leave x lv mu) = stepC 2 zR zAsk zRes by simp [nextS, Un.nextC, hp]] at n1
      have hh : heldS c (.leave x lv mu) = [] := by simp [heldS, Un.held, hp]
      rw [hh] at hvl
      have hvl : lenL hv = some (.int .i64 0) := hvl
      obtain ⟨s1, w1, w2, w3, w4⟩ := wake_p G.fr hO g G.inv
      obtain ⟨n0, hn⟩ := G.bd
      have G2 : Pre c v l p j (wakeS (.leave x lv mu)) hv (heldS c (.leave x lv mu)) s1 :=
        ⟨⟨b, q, U, w2⟩, inv_wakeS G.inv, Un.low_wake low, ful_stx G.ho w3 (by intro x; simp), G.ha.stx hn w3 (by intro x _; simp), G.bd, G.pos, w3.2.2 G.fr⟩
      have hw : Un.wakeC mu = { mu with at' := 1 } := by unfold Un.wakeC; rw [if_pos hp]
      obtain ⟨q0, s', q1, q2, t1, H⟩ := quiet (mk := mk) (la := la) hC hO hj G2 hla (fun xo => by
        show heldS c (leftS x lv (Un.tellC (cuC c x lv) (Un.wakeC mu) a)) = _
        rw [held_left, hh, Un.held_tell (Un.inv_wake i1) a (by rw [hw]; show (1 : Int) ≤ 8; omega), hw]
        simp [Un.held2]) (fun xo => mk_left) (fun xo => la_left hl)
      exact ⟨mk, la, hv, s', by simp only [leapfroglaw16x_RemoveOnce.l9, leapfroglaw16x_RemoveOnce.l9.p1, leapfroglaw16x_RemoveOnce.l9.p2, leapfroglaw16x_RemoveOnce.l9.p3, XS, sy, reduceIte, Nat.reduceAdd, Nat.reduceLeDiff, Nat.reduceLT, Nat.reduceEqDiff, Int.reduceEq, Int.reduceLT, Int.reduceLE, Int.reduceNe, ly, hlen, e1, e2, n1, stepC, hvl, w1, q1, q2, t1, e5], H⟩
  | over mko e =>
    have hh : heldS c (.over mko e) = [] := rfl
    rw [hh] at hvl
    have hvl : lenL hv = some (.int .i64 0) := hvl
    obtain ⟨s1, w1, w2, w3, w4⟩ := wake_p G.fr hO g G.inv
    obtain ⟨n0, hn⟩ := G.bd
    have G2 : Pre c v l p j (.over mko e) hv [] s1 :=
      ⟨⟨b, q, U, w2⟩, trivial, trivial, ful_stx G.ho w3 (by intro x; simp), G.ha.stx hn w3 (by intro x _; simp), G.bd, G.pos, w3.2.2 G.fr⟩
    obtain ⟨q0, s', q1, q2, t1, H⟩ := quiet (mk := mk) (la := la) hC hO hj G2 hla (fun _ => rfl) (fun _ => trivial) (fun _ => trivial)
    rw [show nextS c (.over mko e) = stepC 3 zR zAsk ⟨e, 0, zR, zR, false⟩ from rfl] at n1
    exact ⟨mk, la, hv, s', by simp only [leapfroglaw16x_RemoveOnce.l9, leapfroglaw16x_RemoveOnce.l9.p1, leapfroglaw16x_RemoveOnce.l9.p2, leapfroglaw16x_RemoveOnce.l9.p3, XS, sy, reduceIte, Nat.reduceAdd, Nat.reduceLeDiff, Nat.reduceLT, Nat.reduceEqDiff, Int.reduceEq, Int.reduceLT, Int.reduceLE, Int.reduceNe, ly, hlen, e1, e2, n1, stepC, hvl, w1, q1, q2, t1, e5], H⟩
theorem loop {c : RC} {v : Value} {l : List Ans} {p : Nat} {mk la : Int} {hv : Value} {s : St} (hC : okC c.sk) (hO : okO c.oa c.oo) (h : Here c v l p 0 mk la hv s) :
    ∃ s', iter (leapfroglaw16x_RemoveOnce.l9 std) BIG (XS v p mk la hv 0 c) s = some ((0, [], s') : Cut) := by
  refine iter_rel (fun d xs s' => ∃ mk la hv j, Here c v l p j mk la hv s' ∧ j + d = 300 ∧ xs = XS v p mk la hv j c)
    (fun y : Option Cut => ∃ s', y = some ((0, [], s') : Cut)) ?_ BIG 300 _ s (by unfold BIG; omega) ⟨mk, la, hv, 0, h, by omega, rfl⟩
  rintro d xs s rec ⟨mk, la, hv, j, h, hj, rfl⟩ ih
  obtain ⟨m, G, _, _⟩ := h.ex
  have hlen := G.ha.len
  by_cases h1 : j < l.length
  · have e1 : (j : Int) < l.length := by omega
    cases d with
    | zero =>
      have e2 : ¬ ((j : Int) < 300) := by omega
      exact ⟨s, by simp only [leapfroglaw16x_RemoveOnce.l9, XS, sy, reduceIte, Nat.reduceAdd, Nat.reduceLeDiff, Nat.reduceLT, Nat.reduceEqDiff, Int.reduceEq, Int.reduceLT, Int.reduceLE, Int.reduceNe, ly, hlen, e1, e2]⟩
    | succ d =>
      obtain ⟨a, ha⟩ := get_some h1
      obtain ⟨mk', la', hv', s', g1, g2⟩ := step hC hO h (by omega) ha rec
      rw [g1]
      exact ih d _ _ (by omega) ⟨mk', la', hv', j + 1, g2, by omega, rfl⟩
  · have e1 : ¬ ((j : Int) < l.length) := by omega
    exact ⟨s, by simp only [leapfroglaw16x_RemoveOnce.l9, XS, sy, reduceIte, Nat.reduceAdd, Nat.reduceLeDiff, Nat.reduceLT, Nat.reduceEqDiff, Int.reduceEq, Int.reduceLT, Int.reduceLE, Int.reduceNe, ly, hlen, e1]⟩
theorem law (s : St) (us : List Value) (ha : AllRo s) (hf : ∀ b, s.n ≤ b → s.get b = none) (h : Args s [(true, [.i .i64, .i .i64, .i .i64, .i .u64, .i .i64, .i .u64, .i .u64, .i .i64, .i .i64]), (false, [.sl [.i .i64, .b, .i .i64, .i .i64, .i .u64, .i .i64, .i .u64, .i .i64, .i .i64, .i .u64, .i .i64, .i .u64, .sl [.i .u8]]])] us) :
    ∃ s', leapfroglaw16x_RemoveOnce.w us s = some (.bool true, s') := by
  simp only [Args, Arg] at h
  obtain ⟨_, _, rfl, ⟨_, rfl, h1⟩, v, _, rfl, h2, rfl⟩ := h
  unfold Leaf.Are Leaf.Are at h2
  obtain ⟨v', _, g1, h2, rfl⟩ := h2
  obtain rfl : v = v' := (List.cons.inj g1).1
  simp only [Leaf.Are, Leaf.Is] at h1
  obtain ⟨_, _, rfl, ⟨hh, rfl, _⟩, _, _, rfl, ⟨i1, rfl, _⟩, _, _, rfl, ⟨i2, rfl, _⟩, _, _, rfl, ⟨i3, rfl, _⟩, _, _, rfl, ⟨i4, rfl, _⟩, _, _, rfl, ⟨i5, rfl, hi5⟩, _, _, rfl, ⟨ky, rfl, _⟩, _, _, rfl, ⟨oa, rfl, _⟩, _, _, rfl, ⟨oo, rfl, _⟩, rfl⟩ := h1
  obtain ⟨l, hl, pos, hlen⟩ := isA_of3 h2
  have hm0 := (wf_u64 hi5).1
  have hf : Fresh s := hf
  have hv : ∀ b i len e, v = .slice (some ⟨b, i, some 0⟩) len e → b < s.n := by
    intro b i len e hv
    rcases hl with ⟨h0, _⟩ | ⟨b', i', e', rows, ro, h0, hg, _⟩
    · rw [hv] at h0; cases h0
    · rw [hv] at h0; cases h0
      exact hf.lt hg
  show ∃ s', leapfroglaw16x_RemoveOnce.v (.agg ⟨(⟨hh, ⟨i1, i2, i3, i4, i5⟩, ky, oa, oo⟩ : RC).cs⟩) v s = some (.bool true, s')
  generalize hc : (⟨hh, ⟨i1, i2, i3, i4, i5⟩, ky, oa, oo⟩ : RC) = c
  have hm0 : 0 ≤ c.st.bt := by rw [← hc]; exact hm0
  rcases new_p hf c hm0 with ⟨hC, s1, q1, mo⟩ | ⟨hC, s1, q1, hA, mo, hn⟩
  · exact ⟨s1, by simp only [leapfroglaw16x_RemoveOnce.v, leapfroglaw16x_RemoveOnce.t, sy, reduceIte, Nat.reduceAdd, Nat.reduceLeDiff, Nat.reduceLT, Nat.reduceEqDiff, Int.reduceEq, Int.reduceLT, Int.reduceLE, Int.reduceNe, ly, alive_r, q1]⟩
  · have f1 := mo.fresh hf
    have i0 : InvR c 0 (.seek (m0 c.sk)) := ⟨inv_m0 hC.1, rfl, Nat.le_refl _, ⟨hm0, Int.le_refl 0, Int.le_refl 0, fun e he => by simp [m0] at he⟩⟩
    have H0 : Here c v l (s.n + 2) 0 0 99 (.slice none 0 0) s1 := ⟨⟨.seek (m0 c.sk), ⟨⟨_, _, _, hA⟩, i0, trivial, .inl ⟨rfl, rfl⟩, hl.more mo hf, ⟨s.n, hv⟩, pos, f1⟩, rfl, rfl⟩⟩
    obtain ⟨s', e⟩ := loop hC.1 hC.2 H0
    unfold XS at e
    rw [show ((0 : Nat) : Int) = 0 from rfl] at e
    exact ⟨s', by simp only [leapfroglaw16x_RemoveOnce.v, leapfroglaw16x_RemoveOnce.t, sy, reduceIte, Nat.reduceAdd, Nat.reduceLeDiff, Nat.reduceLT, Nat.reduceEqDiff, Int.reduceEq, Int.reduceLT, Int.reduceLE, Int.reduceNe, ly, alive_r, q1, e]⟩
end RemoveOnce
end Go.Proofs.Ytdppefkjoeefnaa
