/-
  Code of the evaluator against the model's.
-/
import Derived.Test.YtkkgegocliobpaaSimT
set_option linter.unusedSimpArgs false
set_option linter.unusedVariables false
namespace Go.Sim
open Go.RowKit (Below)

theorem std_bd {α β : Type} (m : Option α) (f : α → Option β) : std.bd m f = m.bind f := rfl
theorem std_cnd {R : Type} (v : Value) (x y : Option R) : std.cnd v x y = cnd v x y := rfl
theorem std_it {R : Type} (f : (List Value → St → Option R) → List Value → St → Option R) (xs : List Value) (s : St) : std.it f xs s = iter f BIG xs s := rfl

def exOf : Ex → Exit
  | .normal => .normal
  | .exit i => .exit i
  | .ret => .ret

theorem Ex.beq_eq : ∀ {x y : Ex}, Ex.beq x y = true → x = y
  | .normal, .normal, _ => rfl
  | .exit i, .exit j, h => by simp only [Ex.beq, beq_iff_eq] at h; rw [h]
  | .ret, .ret, _ => rfl
  | .normal, .exit _, h => by simp [Ex.beq] at h
  | .normal, .ret, h => by simp [Ex.beq] at h
  | .exit _, .normal, h => by simp [Ex.beq] at h
  | .exit _, .ret, h => by simp [Ex.beq] at h
  | .ret, .normal, h => by simp [Ex.beq] at h
  | .ret, .exit _, h => by simp [Ex.beq] at h

theorem exIdx_spec {R : Type} (K : Ex → List KE → Option R) : ∀ {l : List (Ex × List KE)} {j i : Nat} {e : Ex} {ks : List KE}, exIdx l j e = some (i, ks) → j ≤ i ∧ exK i K l j = K e ks
  | [], _, _, _, _, h => by simp [exIdx] at h
  | (x, ks') :: r, j, i, e, ks, h => by
    simp only [exIdx] at h
    split at h
    · rename_i hb
      simp only [Option.some.injEq, Prod.mk.injEq] at h
      obtain ⟨rfl, rfl⟩ := h
      have hx := Ex.beq_eq hb
      subst hx
      refine ⟨Nat.le_refl _, ?_⟩
      cases r <;> simp [exK]
    · obtain ⟨h1, h2⟩ := exIdx_spec K h
      refine ⟨by omega, ?_⟩
      cases r with
      | nil => simp [exIdx] at h
      | cons y r =>
        simp only [exK]
        rw [if_neg (by omega)]
        exact h2

section
variable {P : Program} {C : Ctx} {an : An} {φ0 φ : Phi} {ψ : Nat → Option Nat} {s0 s s' : St} {w0 w : World} {fr fr' : Fr} {a g : Act} {ops : Array Oper}

/-- What is left of a frame. -/
structure SubFr (fr fr' : Fr) : Prop where
  e : ∀ t x, lookE fr'.e t = some x → lookG fr.g t = none ∧ lookE fr.e t = some x
  l : ∀ t cs, lookL fr'.l t = some cs → lookL fr.l t = some cs
  g : fr'.g = []

theorem Inv.sub {p : Bool} {N : Nat} (h : Inv p N φ0 s0 w0 φ ψ s fr a w) (hs : SubFr fr fr') : Inv p N φ0 s0 w0 φ ψ s fr' a w := by
  refine ⟨h.step, ⟨⟨fun t x hx => h.frel.env t x (hs.e t x hx).2, fun t t' j gt b hl => ?_⟩, fun t cs hl => h.frel.loc t cs (hs.l t cs hl)⟩,
    ⟨fun t cs c hl => h.apart.new t cs c (hs.l t cs hl), fun t cs c b k l hl => h.apart.row t cs c b k l (hs.l t cs hl), fun t t' cs cs' c hne h1 h2 => h.apart.one t t' cs cs' c hne (hs.l t cs h1) (hs.l t' cs' h2)⟩, h.defers, h.size, h.pure⟩
  rw [hs.g] at hl
  simp [lookG] at hl

theorem Inv.noG {p : Bool} {N : Nat} {e : List (Nat × Ent)} {l : List (Nat × List Value)} {gs : List (Nat × Nat × Nat × Nat × Bool)} (h : Inv p N φ0 s0 w0 φ ψ s ⟨e, l, gs⟩ a w) : Inv p N φ0 s0 w0 φ ψ s ⟨e, l, []⟩ a w := by
  refine ⟨h.step, ⟨⟨h.frel.env, fun t t' j gt b hl => by simp [lookG] at hl⟩, h.frel.loc⟩, ⟨h.apart.new, h.apart.row, h.apart.one⟩, h.defers, h.size, h.pure⟩

theorem evE_tmp {t : Nat} {x : Ent} (h : evE fr none (.tmp t) = some x) : lookG fr.g t = none ∧ lookE fr.e t = some x := by
  simp only [evE] at h
  cases hl : lookG fr.g t with
  | none => rw [hl] at h; exact ⟨rfl, h⟩
  | some q => obtain ⟨t', j, gt, b⟩ := q; rw [hl] at h; simp at h

theorem mkK_spec {α : Type} (xs : List Value) : ∀ (ks : List KE) (vs : List Value) (i : Nat) (K : List (Nat × Ent) → List (Nat × List Value) → α), vals fr ks = some vs → (∀ j v, vs[j]? = some v → xs.getD (i + j) undef = v) →
    ∃ e l, mkK xs ks i K = K e l ∧ SubFr fr ⟨e, l, []⟩
  | [], vs, i, K, h, hx => ⟨[], [], rfl, fun t x hl => by simp [lookE] at hl, fun t cs hl => by simp [lookL] at hl, rfl⟩
  | .v t :: ks, vs, i, K, h, hx => by
    simp only [vals] at h
    split at h
    · rename_i v hv
      split at h
      · rename_i vs' hvs
        simp only [Option.some.injEq] at h
        subst h
        obtain ⟨e, l, h1, h2⟩ := mkK_spec xs ks vs' (i + 1) (fun e l => K ((t, .val (xs.getD i undef)) :: e) l) hvs fun j v hj => by
          have := hx (j + 1) v (by simpa using hj)
          rwa [show i + (j + 1) = i + 1 + j by omega] at this
        have h0 := hx 0 v rfl
        refine ⟨(t, .val v) :: e, l, by rw [show i + 0 = i by omega] at h0; rw [← h0]; exact h1, fun t' x hl => ?_, h2.l, rfl⟩
        simp only [lookE] at hl
        split at hl
        · rename_i ht
          simp only [Option.some.injEq] at hl
          subst hl; subst ht
          exact evE_tmp hv
        · exact h2.e t' x hl
      · simp at h
    · simp at h
  | .l t :: ks, vs, i, K, h, hx => by
    simp only [vals] at h
    split at h
    · rename_i cs hcs
      split at h
      · rename_i vs' hvs
        simp only [Option.some.injEq] at h
        subst h
        obtain ⟨e, l, h1, h2⟩ := mkK_spec xs ks vs' (i + 1) (fun e l => K e ((t, cellsA (xs.getD i undef)) :: l)) hvs fun j v hj => by
          have := hx (j + 1) v (by simpa using hj)
          rwa [show i + (j + 1) = i + 1 + j by omega] at this
        have h0 := hx 0 _ rfl
        rw [show i + 0 = i by omega] at h0
        refine ⟨e, (t, cs) :: l, by simp only [mkK]; rw [h1, h0]; rfl, h2.e, fun t' cs' hl => ?_, rfl⟩
        simp only [lookL] at hl
        split at hl
        · rename_i ht
          simp only [Option.some.injEq] at hl
          subst hl; subst ht
          exact hcs
        · exact h2.l t' cs' hl
      · simp at h
    · simp at h
  | .p t t' j' :: ks, vs, i, K, h, hx => by
    simp only [vals] at h
    split at h
    · rename_i u j hv
      split at h
      · rename_i e1
        split at h
        · rename_i e2
          subst e1; subst e2
          obtain ⟨e, l, h1, h2⟩ := mkK_spec xs ks vs i (fun e l => K ((t, .lp u j) :: e) l) h hx
          refine ⟨(t, .lp u j) :: e, l, h1, fun t'' x hl => ?_, h2.l, rfl⟩
          simp only [lookE] at hl
          split at hl
          · rename_i ht
            simp only [Option.some.injEq] at hl
            subst hl; subst ht
            exact evE_tmp hv
          · exact h2.e t'' x hl
        · simp at h
      · simp at h
    · simp at h

theorem mkK_sub {α : Type} {xs : List Value} {ks : List KE} (K : List (Nat × Ent) → List (Nat × List Value) → α) (h : vals fr ks = some xs) : ∃ e l, mkK xs ks 0 K = K e l ∧ SubFr fr ⟨e, l, []⟩ :=
  mkK_spec xs ks xs 0 K h fun j v hj => by
    rw [Nat.zero_add]
    simp [List.getD_eq_getElem?_getD, hj]

/-- A least number. -/
theorem least {p : Nat → Prop} (h : ∃ n, p n) : ∃ n, p n ∧ ∀ m, p m → n ≤ m := by
  obtain ⟨n, hn⟩ := h
  induction n using Nat.strongRecOn with
  | _ n ih =>
    by_cases hm : ∃ m, m < n ∧ p m
    · obtain ⟨m, h1, h2⟩ := hm
      exact ih m h1 h2
    · exact ⟨n, hn, fun m hp => Nat.le_of_not_lt fun hlt => hm ⟨m, hlt, hp⟩⟩

open Classical in
noncomputable def leastN (p : Nat → Prop) : Nat := if h : ∃ n, p n then Classical.choose (least h) else 0

theorem leastN_spec {p : Nat → Prop} (h : ∃ n, p n) : p (leastN p) ∧ ∀ m, p m → leastN p ≤ m := by
  unfold leastN
  rw [dif_pos h]
  exact Classical.choose_spec (least h)

/-- A loop whose rounds are counted down. -/
theorem wp_loop_down {c : Code} {Q : Exit → Act → World → Prop} (J : Nat → Act → World → Prop) (n : Nat) (h0 : J n a w) (hz : ∀ a w, ¬ J 0 a w)
    (round : ∀ n a w, J (n + 1) a w → c.wp P (Exit.then (J n) Q) a w) : (Code.loop c).wp P Q a w := by
  refine wp_loop (fun a w => ∃ n, J n a w) (fun a w => leastN fun n => J n a w) ⟨n, h0⟩ fun a w hI => ?_
  obtain ⟨h1, h2⟩ := leastN_spec hI
  generalize leastN (fun n => J n a w) = m at h1 h2 ⊢
  cases m with
  | zero => exact absurd h1 (hz a w)
  | succ m =>
    refine wp_mono (round m a w h1) fun e a' w' h => ?_
    cases e with
    | normal => exact ⟨⟨m, h⟩, Nat.lt_succ_of_le ((leastN_spec ⟨m, h⟩).2 m h)⟩
    | _ => exact h

theorem evC_sound (hC : CtxOk P C) (hm : P.follows .mixedOrders = true) : ∀ (c : Code) {R : Type} {fr : Fr} {s : St} {K : Ex → Fr → St → Option R} {r : R} {φ : Phi} {ψ : Nat → Option Nat} {a : Act} {w : World} {Q : Exit → Act → World → Prop},
    drawsOk an c = true → InvA an φ0 s0 w0 φ ψ s fr a w → evC std P C an c R fr s K = some r →
    (∀ e φ' ψ' s' fr' a' w', InvA an φ0 s0 w0 φ' ψ' s' fr' a' w' → K e fr' s' = some r → Q (exOf e) a' w') → c.wp P Q a w
  | .skip, R, fr, s, K, r, φ, ψ, a, w, Q, hd, h, he, hK => wp_skip (hK .normal _ _ _ _ _ _ h he)
  | .label _, R, fr, s, K, r, φ, ψ, a, w, Q, hd, h, he, hK => wp_label (hK .normal _ _ _ _ _ _ h he)
  | .exit i, R, fr, s, K, r, φ, ψ, a, w, Q, hd, h, he, hK => wp_exit (hK (.exit i) _ _ _ _ _ _ h he)
  | .ret, R, fr, s, K, r, φ, ψ, a, w, Q, hd, h, he, hK => wp_ret (hK .ret _ _ _ _ _ _ h he)
  | .region id ops draw, R, ⟨e, l, gs⟩, s, K, r, φ, ψ, a, w, Q, hd, h, he, hK => by
    simp only [evC] at he
    cases draw with
    | false =>
      simp only [Bool.false_eq_true, if_false] at he
      exact wp_region_list (evOps_sound hC ops.toList h.noG he fun φ' ψ' s' fr' a' w' => hK .normal φ' ψ' s' fr' a' w')
    | true =>
      simp only [if_true] at he
      cases ho : lookA an.draws id with
      | none => simp [ho] at he
      | some ord =>
        simp only [ho] at he
        simp only [drawsOk, ho, Bool.not_true, Bool.false_or, Bool.and_eq_true, decide_eq_true_eq] at hd
        exact evDraw_sound hC hm hd.1.2 hd.1.1 hd.2 h.noG he fun φ' ψ' s' fr' a' w' => hK .normal φ' ψ' s' fr' a' w'
  | .seq x y, R, fr, s, K, r, φ, ψ, a, w, Q, hd, h, he, hK => by
    simp only [drawsOk, Bool.and_eq_true] at hd
    simp only [evC] at he
    split at he
    · rename_i la hla
      simp only [std_bd, std_it, Option.bind_eq_some_iff] at he
      obtain ⟨r1, h1, h2⟩ := he
      refine wp_seq (evC_sound hC hm x hd.1 h h1 fun e φ' ψ' s' fr' a' w' h' hk => ?_)
      simp only [cutK] at hk
      split at hk
      · rename_i i ks hi
        split at hk
        · rename_i ys hys
          simp only [Option.some.injEq] at hk
          subst hk
          rw [(exIdx_spec _ hi).2] at h2
          cases e with
          | normal =>
            obtain ⟨e', l', h3, h4⟩ := mkK_sub (fun e' l' => evC std P C an y R ⟨e', l', []⟩ s' K) hys
            simp only [h3] at h2
            exact evC_sound hC hm y hd.2 (h'.sub h4) h2 hK
          | exit j =>
            obtain ⟨e', l', h3, h4⟩ := mkK_sub (fun e' l' => K (.exit j) ⟨e', l', []⟩ s') hys
            simp only [h3] at h2
            exact hK _ _ _ _ _ _ _ (h'.sub h4) h2
          | ret =>
            obtain ⟨e', l', h3, h4⟩ := mkK_sub (fun e' l' => K .ret ⟨e', l', []⟩ s') hys
            simp only [h3] at h2
            exact hK _ _ _ _ _ _ _ (h'.sub h4) h2
        · simp at hk
      · simp at hk
    · refine wp_seq (evC_sound hC hm x hd.1 h he fun e φ' ψ' s' fr' a' w' h' hk => ?_)
      cases e with
      | normal => exact evC_sound hC hm y hd.2 h' hk hK
      | exit i => exact hK _ _ _ _ _ _ _ h' hk
      | ret => exact hK _ _ _ _ _ _ _ h' hk
  | .cond c x y, R, fr, s, K, r, φ, ψ, a, w, Q, hd, h, he, hK => by
    simp only [drawsOk, Bool.and_eq_true] at hd
    simp only [evC] at he
    split at he
    · rename_i v hv
      have hvr := evV_sound h.frel.toEnvRel hv
      simp only [std_cnd, cnd] at he
      split at he
      · exact wp_cond (t := true) (isB hvr) (evC_sound hC hm x hd.1 h he hK)
      · exact wp_cond (t := false) (isB hvr) (evC_sound hC hm y hd.2 h he hK)
      · simp at he
    · simp at he
  | .block id x, R, fr, s, K, r, φ, ψ, a, w, Q, hd, h, he, hK => by
    simp only [drawsOk] at hd
    simp only [evC] at he
    refine wp_block (evC_sound hC hm x hd h he fun e φ' ψ' s' fr' a' w' h' hk => ?_)
    cases e with
    | normal => exact hK _ _ _ _ _ _ _ h' hk
    | ret => exact hK _ _ _ _ _ _ _ h' hk
    | exit i =>
      simp only [exOf, Exit.inBlock]
      simp only at hk
      split
      · rename_i hi
        rw [if_pos hi] at hk
        exact hK .normal _ _ _ _ _ _ h' hk
      · rename_i hi
        rw [if_neg hi] at hk
        exact hK (.exit i) _ _ _ _ _ _ h' hk
  | .loop x, R, fr, s, K, r, φ, ψ, a, w, Q, hd, h, he, hK => by
    simp only [drawsOk] at hd
    simp only [evC] at he
    split at he
    · rename_i la hla
      split at he
      · rename_i xs hxs
        simp only [std_bd, std_it, Option.bind_eq_some_iff] at he
        obtain ⟨r1, h1, h2⟩ := he
        generalize hF : (fun (rec : List Value → St → Option Cut) (xs : List Value) (s : St) => mkK xs la.ks 0 fun e' l' => evC std P C an x Cut ⟨e', l', []⟩ s fun e fr s => match e with
          | .normal => match vals fr la.ks with
            | some ys => rec ys s
            | none => none
          | e => cutK la e fr s) = F at h1
        refine wp_loop_down (fun n a w => ∃ φ ψ s fr xs, InvA an φ0 s0 w0 φ ψ s fr a w ∧ vals fr la.ks = some xs ∧ iter F n xs s = some r1) BIG ⟨φ, ψ, s, fr, xs, h, hxs, h1⟩
          (fun a w ⟨φ, ψ, s, fr, xs, _, _, h3⟩ => by simp [iter] at h3) fun n a w ⟨φ, ψ, s, fr, xs, h, hxs, h3⟩ => ?_
        simp only [iter] at h3
        rw [← hF] at h3
        obtain ⟨e', l', h4, h5⟩ := mkK_sub (fun e' l' => evC std P C an x Cut ⟨e', l', []⟩ s fun e fr s => match e with
          | .normal => match vals fr la.ks with
            | some ys => iter F n ys s
            | none => none
          | e => cutK la e fr s) hxs
        simp only [hF] at h3
        rw [h4] at h3
        refine evC_sound hC hm x hd (h.sub h5) h3 fun e φ' ψ' s' fr' a' w' h' hk => ?_
        have key : ∀ e, cutK la e fr' s' = some r1 → Q (exOf e) a' w' := by
          intro e hk
          simp only [cutK] at hk
          split at hk
          · rename_i i ks hi
            split at hk
            · rename_i ys hys
              simp only [Option.some.injEq] at hk
              subst hk
              rw [(exIdx_spec _ hi).2] at h2
              obtain ⟨e', l', h6, h7⟩ := mkK_sub (fun e' l' => K e ⟨e', l', []⟩ s') hys
              simp only [h6] at h2
              exact hK _ _ _ _ _ _ _ (h'.sub h7) h2
            · simp at hk
          · simp at hk
        cases e with
        | normal =>
          simp only at hk
          split at hk
          · rename_i ys hys
            exact ⟨φ', ψ', s', fr', ys, h', hys, hk⟩
          · simp at hk
        | exit i => exact key _ hk
        | ret => exact key _ hk
      · simp at he
    · simp at he

end
end Go.Sim
