/-
  InsertFrees, over abstract values.
-/
import Derived.Test.YteafgjpbfhjbjaaGreatInsE
import Derived.Test.YteafgjpbfhjbjaaGreatSpmG
set_option linter.unusedSimpArgs false
set_option linter.unusedVariables false
set_option maxRecDepth 100000
set_option maxHeartbeats 2000000
namespace Go.Proofs.YteafgjpbfhjbjaaGreat
open Go.Sim Go.Sim.Bt
attribute [local congr] bdc cndc itec gdc gdSc gdUc
namespace InsertFrees
theorem alive_r (s : St) : l15aliveC.r s = some (.bool true) := rfl
theorem keep_k {ks : List Nat} {s s' : St} (f : Fresh s) (h : Keep s.n s s') : StpK ks s s' := ⟨h.n, fun x k hx _ => by rw [h.old x (f.lt hx)]; exact hx, h.fresh⟩
theorem own_k {ks : List Nat} {n0 : Nat} {s s' : St} {v : Value} {rows : List (List Value)} (h : Own n0 s 1 v rows) (k : StpK ks s s') (h1 : 1 ∉ ks) : Own n0 s' 1 v rows := by
  rcases h with ⟨g1, g2⟩ | ⟨q, g1, g2, g3⟩
  · exact .inl ⟨g1, g2⟩
  · exact .inr ⟨q, g1, g2, k.row g3 h1⟩
theorem own_0 {n0 : Nat} {s : St} {v : Value} {rows : List (List Value)} (h : Own n0 s 1 v rows) : Own 0 s 1 v rows := by
  rcases h with ⟨g1, g2⟩ | ⟨q, g1, g2, g3⟩
  · exact .inl ⟨g1, g2⟩
  · exact .inr ⟨q, Nat.zero_le _, g2, g3⟩
def Hok (H : List Int) : IS → Prop
  | .splice _ cf mp _ => ∀ x ∈ H, Sp.allow cf mp x
  | _ => H = []
theorem hok_nil {m : IS} : Hok [] m := by
  cases m with
  | splice lv cf mp n => exact fun x hx => by simp at hx
  | _ => rfl
theorem hok_settle {c : IC} {lv : Nat} {cf : Sp.Cf} {n : Int} {mp : Sp.Mm} {H : List Int} (h : ∀ x ∈ H, Sp.allow cf mp x) : Hok H (settleI c lv cf n mp) := by
  unfold settleI
  split
  · rename_i g
    have : H = [] := by
      rw [List.eq_nil_iff_forall_not_mem]
      intro x hx
      have := h x hx
      unfold Sp.allow at this
      simp [g] at this
    rw [this]
    exact hok_nil
  · exact h
structure Here (c : IC) (v : Value) (l : List OpA) (p j : Nat) (hv : Value) (s : St) : Prop where
  ex : ∃ m H, Pre c v l p j m s ∧ Own 0 s 1 hv (Sp.rowsZ H) ∧ Hok H m ∧ H.length ≤ j
theorem stepAsk {c : IC} {v : Value} {l : List OpA} {p j : Nat} {m : IS} {H : List Int} {hv : Value} {s : St} (hC : okI c) (G : Pre c v l p j m s) (hO : Own 0 s 1 hv (Sp.rowsZ H)) (hl : H.length ≤ j) (hj : j < 120) {o : OpA} (ho : l[j]? = some o) {T : Rf} {ak : AskP} (hx : nextI c m = stepC 1 T ak zRes)
    (hK : H ≠ [] → ak.k ≠ 3 ∧ ak.k ≠ 10) (hW : Hok H (wakeI m)) (hT : ∀ xo, Hok (Sp.heldL H T.id ak.k o.a.k) (tellI c o.a xo m)) (rec : List Value → St → Option Cut) :
    ∃ hv' s', l15InsertFrees.l7 std rec [v, P p, hv, .int .i64 (j : Int)] s = rec [v, P p, hv', .int .i64 ((j + 1 : Nat) : Int)] s' ∧ Here c v l p (j + 1) hv' s' := by
  have n1 := G.next hC
  rw [hx] at n1
  have hjl : j < l.length := (List.getElem?_eq_some_iff.1 ho).1
  have e1 : (j : Int) < l.length := by omega
  have e2 : (j : Int) < 120 := by omega
  have e5 : IntKind.i64.wrap ((j : Int) + 1) = ((j + 1 : Nat) : Int) := by rw [wrap64 (by omega) (by omega)]; omega
  obtain ⟨b1, k1, rows1, ro1, a1, a2, a3⟩ := G.ho.at ho
  have hlen := G.ho.len
  obtain ⟨pa, bxa⟩ := G.pos j o ho
  have hvl := hO.len
  rw [Sp.rowsZ_length] at hvl
  have test : ∀ {Y Z : Option Cut}, True := fun {_ _} => trivial
  cases hwk : o.wake with
  | true =>
    obtain ⟨s1, w1, w2, w3⟩ := G.wake
    refine ⟨hv, s1, ?_, ⟨_, H, w2, own_k hO w3 (by simp), hW, by omega⟩⟩
    by_cases h0 : H = []
    · have z : ¬ (0 : Int) < (H.length : Int) := by rw [h0]; simp
      simp only [l15InsertFrees.l7, l15InsertFrees.l7.p1, sy, reduceIte, Nat.reduceAdd, Nat.reduceLeDiff, Nat.reduceLT, Nat.reduceEqDiff, Int.reduceEq, Int.reduceLT, Int.reduceLE, Int.reduceNe, ly, hlen, e1, e2, n1, stepC, hvl, z, a1, ldc_row a2, a3, hwk, w1, e5]
    · have z : (0 : Int) < (H.length : Int) := by have := List.length_pos_iff.2 h0; omega
      obtain ⟨g3, g10⟩ := hK h0
      simp only [l15InsertFrees.l7, l15InsertFrees.l7.p1, sy, reduceIte, Nat.reduceAdd, Nat.reduceLeDiff, Nat.reduceLT, Nat.reduceEqDiff, Int.reduceEq, Int.reduceLT, Int.reduceLE, Int.reduceNe, ly, hlen, e1, e2, n1, stepC, hvl, z, g3, g10, a1, ldc_row a2, a3, hwk, w1, e5]
  | false =>
    obtain ⟨s1, xo, w1, w2, w3, _⟩ := G.tell hC (by omega) pa
    obtain ⟨b2, k2, rows2, ro2, c1, c2, c3⟩ := w2.ho.at ho
    obtain ⟨u, s2, d1, d2, d3⟩ := Sp.held_r w2.fr (own_k hO w3 (by simp)) T ak o.a (by omega)
    have kk : StpK [] s1 s2 := keep_k w2.fr d2
    have ik := (w2.ho.keep (s' := s2) fun b rows ro hx => kk.row hx (by simp)).2 j hjl
    rw [c1] at ik
    have lh := Sp.heldL_length H T.id ak.k o.a.k
    simp only [stepC] at d1
    refine ⟨u, s2, ?_, ⟨_, _, w2.stp kk (by simp) (by simp) (by simp) (by simp) (by simp) (by simp) (by simp) (by simp), own_0 d3, hT xo, by omega⟩⟩
    by_cases h0 : H = []
    · have z : ¬ (0 : Int) < (H.length : Int) := by rw [h0]; simp
      simp only [l15InsertFrees.l7, l15InsertFrees.l7.p1, sy, reduceIte, Nat.reduceAdd, Nat.reduceLeDiff, Nat.reduceLT, Nat.reduceEqDiff, Int.reduceEq, Int.reduceLT, Int.reduceLE, Int.reduceNe, ly, hlen, e1, e2, n1, stepC, hvl, z, a1, ldc_row a2, lda_row a2, a3, hwk, w1, c1, lda_row c2, c3, d1, ik, samePj, e5]
    · have z : (0 : Int) < (H.length : Int) := by have := List.length_pos_iff.2 h0; omega
      obtain ⟨g3, g10⟩ := hK h0
      simp only [l15InsertFrees.l7, l15InsertFrees.l7.p1, sy, reduceIte, Nat.reduceAdd, Nat.reduceLeDiff, Nat.reduceLT, Nat.reduceEqDiff, Int.reduceEq, Int.reduceLT, Int.reduceLE, Int.reduceNe, ly, hlen, e1, e2, n1, stepC, hvl, z, g3, g10, a1, ldc_row a2, lda_row a2, a3, hwk, w1, c1, lda_row c2, c3, d1, ik, samePj, e5]
theorem stepNo {c : IC} {v : Value} {l : List OpA} {p j : Nat} {m : IS} {hv : Value} {s : St} (hC : okI c) (G : Pre c v l p j m s) (hO : Own 0 s 1 hv (Sp.rowsZ [])) (hj : j < 120) {o : OpA} (ho : l[j]? = some o) {k : Int} {r : Res} (hk : k ≠ 1) (hx : nextI c m = stepC k zR zAsk r)
    (rec : List Value → St → Option Cut) :
    ∃ s', l15InsertFrees.l7 std rec [v, P p, hv, .int .i64 (j : Int)] s = rec [v, P p, hv, .int .i64 ((j + 1 : Nat) : Int)] s' ∧ Here c v l p (j + 1) hv s' := by
  have n1 := G.next hC
  rw [hx] at n1
  have hjl : j < l.length := (List.getElem?_eq_some_iff.1 ho).1
  have e1 : (j : Int) < l.length := by omega
  have e2 : (j : Int) < 120 := by omega
  have e5 : IntKind.i64.wrap ((j : Int) + 1) = ((j + 1 : Nat) : Int) := by rw [wrap64 (by omega) (by omega)]; omega
  obtain ⟨b1, k1, rows1, ro1, a1, a2, a3⟩ := G.ho.at ho
  have hlen := G.ho.len
  obtain ⟨pa, bxa⟩ := G.pos j o ho
  have hvl := hO.len
  have hvl : lenL hv = some (.int .i64 0) := hvl
  cases hwk : o.wake with
  | true =>
    obtain ⟨s1, w1, w2, w3⟩ := G.wake
    refine ⟨s1, ?_, ⟨_, [], w2, own_k hO w3 (by simp), hok_nil, Nat.zero_le _⟩⟩
    simp only [l15InsertFrees.l7, l15InsertFrees.l7.p1, sy, reduceIte, Nat.reduceAdd, Nat.reduceLeDiff, Nat.reduceLT, Nat.reduceEqDiff, Int.reduceEq, Int.reduceLT, Int.reduceLE, Int.reduceNe, ly, hlen, e1, e2, n1, stepC, hvl, a1, ldc_row a2, a3, hwk, w1, e5]
  | false =>
    obtain ⟨s1, xo, w1, w2, w3, _⟩ := G.tell hC (by omega) pa
    refine ⟨s1, ?_, ⟨_, [], w2, own_k hO w3 (by simp), hok_nil, Nat.zero_le _⟩⟩
    simp only [l15InsertFrees.l7, l15InsertFrees.l7.p1, sy, reduceIte, Nat.reduceAdd, Nat.reduceLeDiff, Nat.reduceLT, Nat.reduceEqDiff, Int.reduceEq, Int.reduceLT, Int.reduceLE, Int.reduceNe, ly, hlen, e1, e2, n1, stepC, hvl, hk, a1, ldc_row a2, lda_row a2, a3, hwk, w1, e5]
theorem heldL_nil {t k a : Int} (h : k ≠ 3) (h7 : k ≠ 7) : Sp.heldL [] t k a = [] := by
  unfold Sp.heldL
  rw [if_neg (by rintro ⟨_, g | g⟩; exact h g; exact h7 g)]
  rfl
theorem step {c : IC} {v : Value} {l : List OpA} {p j : Nat} {hv : Value} {s : St} (hC : okI c) (h : Here c v l p j hv s) (hj : j < 120) {o : OpA} (ho : l[j]? = some o) (rec : List Value → St → Option Cut) :
    ∃ hv' s', l15InsertFrees.l7 std rec [v, P p, hv, .int .i64 (j : Int)] s = rec [v, P p, hv', .int .i64 ((j + 1 : Nat) : Int)] s' ∧ Here c v l p (j + 1) hv' s' := by
  obtain ⟨m, H, G, hO, hk, hl⟩ := h.ex
  cases m with
  | seek cf ms n =>
    have hH : H = [] := hk
    subst hH
    obtain ⟨_, _, _, _, a5, _⟩ := G.inv
    refine stepAsk hC G hO hl hj ho (T := if ms.lk = true then ms.to else ms.ap) (ak := ⟨1, ms.wl, ms.wb, zR, zR, 0, 0⟩) (by simp [nextI, nextC, a5]) (fun g => absurd rfl g) hok_nil (fun xo => ?_) rec
    rw [heldL_nil (by simp) (by simp)]
    exact hok_nil
  | splice lv cf mp n =>
    obtain ⟨i1, i2, i3, i4, i5⟩ := G.inv
    have hk : ∀ x ∈ H, Sp.allow cf mp x := hk
    have hp : mp.at' = 1 ∨ mp.at' = 2 ∨ mp.at' = 3 ∨ mp.at' = 4 ∨ mp.at' = 5 ∨ mp.at' = 6 ∨ mp.at' = 7 ∨ mp.at' = 8 ∨ mp.at' = 9 := by unfold Sp.InvM at i1; omega
    have emp : mp.at' = 1 ∨ mp.at' = 9 → H = [] := by
      intro g
      rw [List.eq_nil_iff_forall_not_mem]
      intro x hx
      have := hk x hx
      unfold Sp.allow at this
      rcases g with g | g <;> simp [g] at this
    have go : ∀ {K : Int} {T r r2 : Rf} {b : Bool}, mp.at' ≤ 8 → Sp.nextC cf mp = Sp.askC cf K T r r2 b → Sp.askT cf mp = T → Sp.askK mp = K → (H ≠ [] → K ≠ 3 ∧ K ≠ 10) → ∃ hv' s', l15InsertFrees.l7 std rec [v, P p, hv, .int .i64 (j : Int)] s = rec [v, P p, hv', .int .i64 ((j + 1 : Nat) : Int)] s' ∧ Here c v l p (j + 1) hv' s' := by
      intro K T r r2 b h8 hnx hT hKK hne
      refine stepAsk hC G hO hl hj ho (T := T) (ak := ⟨K, cf.wl, cf.wb, r, r2, if b then cf.oa else 0, if b then cf.oo else 0⟩) hnx hne (fun x hx => Sp.allow_wake (hk x hx)) (fun xo => ?_) rec
      have := Sp.allow_tell (c := cf) i1 hk o.a h8
      rw [hT, hKK] at this
      exact hok_settle this
    rcases hp with hp | hp | hp | hp | hp | hp | hp | hp | hp
    · exact go (K := 3) (T := mp.p) (by omega) (by simp [Sp.nextC, hp]; rfl) (by simp [Sp.askT, hp]) (by simp [Sp.askK, hp]) (fun g => absurd (emp (.inl hp)) g)
    · exact go (K := 1) (T := mp.r) (by omega) (by simp [Sp.nextC, hp]; rfl) (by simp [Sp.askT, hp]) (by simp [Sp.askK, hp]) (fun _ => by omega)
    · exact go (K := 7) (T := cf.me) (by omega) (by simp [Sp.nextC, hp]; rfl) (by simp [Sp.askT, hp]) (by simp [Sp.askK, hp]) (fun _ => by omega)
    · exact go (K := 5) (T := mp.p) (by omega) (by simp [Sp.nextC, hp]; rfl) (by simp [Sp.askT, hp]) (by simp [Sp.askK, hp]) (fun _ => by omega)
    · exact go (K := 6) (T := mp.r) (by omega) (by simp [Sp.nextC, hp]; rfl) (by simp [Sp.askT, hp]) (by simp [Sp.askK, hp]) (fun _ => by omega)
    · exact go (K := 4) (T := cf.me) (by omega) (by simp [Sp.nextC, hp]; rfl) (by simp [Sp.askT, hp]) (by simp [Sp.askK, hp]) (fun _ => by omega)
    · exact go (K := 8) (T := cf.me) (by omega) (by simp [Sp.nextC, hp]; rfl) (by simp [Sp.askT, hp]) (by simp [Sp.askK, hp]) (fun _ => by omega)
    · exact go (K := 4) (T := mp.p) (by omega) (by simp [Sp.nextC, hp]; rfl) (by simp [Sp.askT, hp]) (by simp [Sp.askK, hp]) (fun _ => by omega)
    · have hH := emp (.inr hp)
      subst hH
      obtain ⟨s', g1, g2⟩ := stepNo hC G hO hj ho (k := 2) (r := zRes) (by decide) (by simp [nextI, Sp.nextC, hp]) rec
      exact ⟨hv, s', g1, g2⟩
  | walk lv on n =>
    have hH : H = [] := hk
    subst hH
    refine stepAsk hC G hO hl hj ho (T := on) (ak := ⟨1, ((lv - 1 : Nat) : Int), bitsI c (lv - 1), zR, zR, 0, 0⟩) rfl (fun g => absurd rfl g) hok_nil (fun xo => ?_) rec
    rw [heldL_nil (by simp) (by simp)]
    exact hok_nil
  | join =>
    have hH : H = [] := hk
    subst hH
    refine stepAsk hC G hO hl hj ho (T := c.me) (ak := ⟨10, 0, 0, zR, zR, 0, 0⟩) rfl (fun g => absurd rfl g) hok_nil (fun xo => ?_) rec
    rw [heldL_nil (by simp) (by simp)]
    exact hok_nil
  | over e =>
    have hH : H = [] := hk
    subst hH
    obtain ⟨s', g1, g2⟩ := stepNo hC G hO hj ho (k := 3) (r := ⟨e, 0, zR, zR, false⟩) (by decide) rfl rec
    exact ⟨hv, s', g1, g2⟩
theorem loop {c : IC} {v : Value} {l : List OpA} {p : Nat} {hv : Value} {s : St} (hC : okI c) (h : Here c v l p 0 hv s) :
    ∃ s', iter (l15InsertFrees.l7 std) BIG [v, P p, hv, .int .i64 ((0 : Nat) : Int)] s = some ((0, [], s') : Cut) := by
  refine iter_rel (fun d xs s' => ∃ j hv, Here c v l p j hv s' ∧ j + d = 120 ∧ xs = [v, P p, hv, .int .i64 (j : Int)])
    (fun y : Option Cut => ∃ s', y = some ((0, [], s') : Cut)) ?_ BIG 120 _ s (by unfold BIG; omega) ⟨0, hv, h, by omega, rfl⟩
  rintro d xs s rec ⟨j, hv, h, hj, rfl⟩ ih
  obtain ⟨m, H, G, _⟩ := h.ex
  have hlen := G.ho.len
  by_cases h1 : j < l.length
  · have e1 : (j : Int) < l.length := by omega
    cases d with
    | zero =>
      have e2 : ¬ ((j : Int) < 120) := by omega
      exact ⟨s, by simp only [l15InsertFrees.l7, sy, reduceIte, Nat.reduceAdd, Nat.reduceLeDiff, Nat.reduceLT, Nat.reduceEqDiff, Int.reduceEq, Int.reduceLT, Int.reduceLE, Int.reduceNe, ly, hlen, e1, e2]⟩
    | succ d =>
      obtain ⟨a, ha⟩ := get_some h1
      obtain ⟨hv', s', g1, g2⟩ := step hC h (by omega) ha rec
      rw [g1]
      exact ih d _ _ (by omega) ⟨j + 1, hv', g2, by omega, rfl⟩
  · have e1 : ¬ ((j : Int) < l.length) := by omega
    exact ⟨s, by simp only [l15InsertFrees.l7, sy, reduceIte, Nat.reduceAdd, Nat.reduceLeDiff, Nat.reduceLT, Nat.reduceEqDiff, Int.reduceEq, Int.reduceLT, Int.reduceLE, Int.reduceNe, ly, hlen, e1]⟩
theorem law (s : St) (us : List Value) (ha : AllRo s) (hf : ∀ b, s.n ≤ b → s.get b = none) (h : Args s [(true, [.i .i64, .i .i64, .i .i64, .i .u64, .i .i64, .i .u64, .i .i64, .i .i64, .i .u64, .i .i64, .i .u64, .i .i64, .i .i64]), (false, [.sl [.b, .i .i64, .b, .i .i64, .i .i64, .i .u64, .i .i64, .i .u64, .i .i64, .i .i64, .i .u64, .i .i64, .i .u64, .sl [.i .u8]]])] us) :
    ∃ s', l15InsertFrees.w us s = some (.bool true, s') := by
  simp only [Args, Arg] at h
  obtain ⟨_, _, rfl, ⟨_, rfl, h1⟩, v, _, rfl, h2, rfl⟩ := h
  unfold Leaf.Are Leaf.Are at h2
  obtain ⟨v', _, g1, h2, rfl⟩ := h2
  obtain rfl : v = v' := (List.cons.inj g1).1
  simp only [Leaf.Are, Leaf.Is] at h1
  obtain ⟨_, _, rfl, ⟨hh, rfl, _⟩, _, _, rfl, ⟨i1, rfl, _⟩, _, _, rfl, ⟨i2, rfl, _⟩, _, _, rfl, ⟨i3, rfl, _⟩, _, _, rfl, ⟨i4, rfl, _⟩, _, _, rfl, ⟨i5, rfl, hi5⟩, _, _, rfl, ⟨f1, rfl, _⟩, _, _, rfl, ⟨f2, rfl, _⟩, _, _, rfl, ⟨f3, rfl, _⟩, _, _, rfl, ⟨f4, rfl, _⟩, _, _, rfl, ⟨f5, rfl, hf5⟩, _, _, rfl, ⟨oa, rfl, _⟩, _, _, rfl, ⟨oo, rfl, _⟩, rfl⟩ := h1
  obtain ⟨l, hl, pos⟩ := isO_of3 h2
  have hm0 := (wf_u64 hi5).1
  have hb0 := (wf_u64 hf5).1
  have hf : Fresh s := hf
  show ∃ s', l15InsertFrees.v (.agg ⟨(⟨hh, ⟨i1, i2, i3, i4, i5⟩, ⟨f1, f2, f3, f4, f5⟩, oa, oo⟩ : IC).cs⟩) v s = some (.bool true, s')
  generalize hc : (⟨hh, ⟨i1, i2, i3, i4, i5⟩, ⟨f1, f2, f3, f4, f5⟩, oa, oo⟩ : IC) = c
  have hm0 : 0 ≤ c.me.bt := by rw [← hc]; exact hm0
  have hb0 : 0 ≤ c.st.bt := by rw [← hc]; exact hb0
  have hn1 : ∀ x : Nat, eqb [3] false false (P x) (.pointer none) = some (.bool false) := fun _ => rfl
  rcases new_i hf c hb0 hm0 with ⟨hC, s1, q1, mo⟩ | ⟨hC, s1, b, q, q1, hA, mo⟩
  · rcases new_j (mo.fresh hf) c hb0 hm0 with ⟨_, s2, q2, _⟩ | ⟨g, _⟩
    · exact ⟨s2, by simp only [l15InsertFrees.v, l15InsertFrees.t, sy, reduceIte, Nat.reduceAdd, Nat.reduceLeDiff, Nat.reduceLT, Nat.reduceEqDiff, Int.reduceEq, Int.reduceLT, Int.reduceLE, Int.reduceNe, ly, q1, q2, alive_r]⟩
    · exact absurd g hC
  · have f1 := mo.fresh hf
    have k1 : StpK [] s s1 := .more mo hf
    have H0 : Here c v l s.n 0 (.slice none 0 0) s1 := ⟨⟨_, [], ⟨⟨b, q, 0, hA⟩, inv_start hC, hl.stp k1 (by simp), pos, f1⟩, .inl ⟨rfl, rfl⟩, rfl, Nat.le_refl _⟩⟩
    obtain ⟨s', e⟩ := loop hC H0
    rw [show ((0 : Nat) : Int) = 0 from rfl] at e
    exact ⟨s', by simp only [l15InsertFrees.v, l15InsertFrees.t, sy, reduceIte, Nat.reduceAdd, Nat.reduceLeDiff, Nat.reduceLT, Nat.reduceEqDiff, Int.reduceEq, Int.reduceLT, Int.reduceLE, Int.reduceNe, ly, q1, hn1, e, alive_r]⟩
end InsertFrees
end Go.Proofs.YteafgjpbfhjbjaaGreat
