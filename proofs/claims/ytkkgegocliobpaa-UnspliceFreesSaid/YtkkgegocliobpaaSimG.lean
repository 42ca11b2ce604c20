/-
  '==', arithmetic, addresses, parts and wholes.
-/
import Derived.Test.YtkkgegocliobpaaSimF
import Derived.Laws.StructEq
set_option linter.unusedSimpArgs false
namespace Go.Sim

section
variable {P : Program} (w : World)

theorem run_isAgg {t : TypeId} {b : Bool} (h : aggT P t = some b) : (isAgg t).run P w = .ok b w := by
  unfold aggT at h
  cases hu : P.underlying t with
  | none => simp [hu] at h
  | some d => cases d <;> simp [hu] at h <;> subst h <;> simp [isAgg, run_underlying hu]

theorem run_sizeOf {t : TypeId} {n : Nat} (h : sizeT P t = some n) : (sizeOf t).run P w = .ok n w := by
  unfold sizeT at h
  cases hi : P.info? t with
  | none => simp [hi] at h
  | some i => simp [hi] at h; subst h; simp [sizeOf, typeInfo, hi]

theorem run_zeroValue {t : TypeId} {z : Value} (h : zeroT P t = some z) : (zeroValue t).run P w = .ok z w := by
  unfold zeroT at h
  cases hi : P.info? t with
  | none => simp [hi] at h
  | some i => simp [hi] at h; simp [zeroValue, typeInfo, hi, h]

theorem run_part_one {t : TypeId} {cs : List Value} {off : Nat} {v : Value} (h : aggT P t = some false) (hv : cs[off]? = some v) : (part t ⟨cs⟩ off).run P w = .ok v w := by
  simp [part, run_isAgg w h, hv]

theorem run_part_agg {t : TypeId} {cs : List Value} {off n : Nat} (h : aggT P t = some true) (hn : sizeT P t = some n) : (part t ⟨cs⟩ off).run P w = .ok (.agg ⟨(cs.drop off).take n⟩) w := by
  simp only [part, Sem.run_bind, run_isAgg w h, Result.andThen_ok, if_true, run_sizeOf w hn, Sem.run_pure]
  congr 2
  apply Array.ext'
  simp

/-! ### '==' -/

theorem eqks_append : ∀ {ks ls : List Nat} {xs ys xs2 ys2 : List Value} {b c : Bool}, eqks ks xs ys = some b → eqks ls xs2 ys2 = some c → eqks (ks ++ ls) (xs ++ xs2) (ys ++ ys2) = some (b && c)
  | [], ls, [], [], xs2, ys2, b, c, h, h' => by simp [eqks] at h; subst h; simpa using h'
  | k :: ks, ls, x :: xs, y :: ys, xs2, ys2, b, c, h, h' => by
    simp only [eqks] at h
    cases h1 : eqk k x y with
    | none => simp [h1] at h
    | some p =>
      cases h2 : eqks ks xs ys with
      | none => simp [h1, h2] at h
      | some q =>
        simp [h1, h2] at h
        subst h
        have := eqks_append h2 h'
        simp [eqks, h1, this, Bool.and_assoc]
  | [], ls, _ :: _, _, _, _, _, _, h, _ => by simp [eqks] at h
  | [], ls, [], _ :: _, _, _, _, _, h, _ => by simp [eqks] at h
  | _ :: _, ls, [], _, _, _, _, _, h, _ => by simp [eqks] at h
  | _ :: _, ls, _ :: _, [], _, _, _, _, h, _ => by simp [eqks] at h

theorem eqks_split : ∀ {ks ls : List Nat} {xs ys : List Value} {b : Bool}, eqks (ks ++ ls) xs ys = some b →
    ∃ p q, eqks ks (xs.take ks.length) (ys.take ks.length) = some p ∧ eqks ls (xs.drop ks.length) (ys.drop ks.length) = some q ∧ b = (p && q)
  | [], ls, xs, ys, b, h => ⟨true, b, by simp [eqks], by simpa using h, by simp⟩
  | k :: ks, ls, [], ys, b, h => by cases ys <;> simp [eqks] at h
  | k :: ks, ls, x :: xs, [], b, h => by simp [eqks] at h
  | k :: ks, ls, x :: xs, y :: ys, b, h => by
    simp only [List.cons_append, eqks] at h
    cases h1 : eqk k x y with
    | none => simp [h1] at h
    | some p =>
      cases h2 : eqks (ks ++ ls) xs ys with
      | none => simp [h1, h2] at h
      | some q =>
        simp [h1, h2] at h
        subst h
        obtain ⟨p2, q2, e1, e2, e3⟩ := eqks_split h2
        exact ⟨p && p2, q2, by simp [eqks, h1, e1], by simpa using e2, by rw [e3, Bool.and_assoc]⟩

theorem eqks_len : ∀ {ks : List Nat} {xs ys : List Value} {b : Bool}, eqks ks xs ys = some b → xs.length = ks.length ∧ ys.length = ks.length
  | [], [], [], _, _ => ⟨rfl, rfl⟩
  | _ :: ks, x :: xs, y :: ys, b, h => by
    unfold eqks at h
    cases h1 : eqk _ x y with
    | none => rw [h1] at h; simp at h
    | some p =>
      cases h2 : eqks ks xs ys with
      | none => rw [h1, h2] at h; simp at h
      | some q => have := eqks_len h2; exact ⟨by simp [this.1], by simp [this.2]⟩
  | [], _ :: _, _, _, h => by simp [eqks] at h
  | [], [], _ :: _, _, h => by simp [eqks] at h
  | _ :: _, [], _, _, h => by simp [eqks] at h
  | _ :: _, _ :: _, [], _, h => by simp [eqks] at h

theorem beq_bytes (s t : ByteArray) : (s == t) = decide (s = t) := by
  rw [beq_toListBytes, ByteArray.toList_eq, ByteArray.toList_eq]
  obtain ⟨⟨x⟩⟩ := s
  obtain ⟨⟨y⟩⟩ := t
  rw [Bool.eq_iff_iff]
  simp

/-- In one cell. -/
theorem eqk_sound {φ : Phi} {t : TypeId} {k : Nat} {x x' y y' : Value} {b : Bool} (d : Nat) (dsc : TypeDesc) (hu : P.underlying t = some dsc)
    (hk : (dsc = .bool ∧ k = 0) ∨ (∃ i, dsc = .int i ∧ k = 1) ∨ (dsc = .string ∧ k = 2) ∨ (∃ e, dsc = .pointer e ∧ k = 3) ∨ (∃ e, dsc = .slice e ∧ k = 4) ∨ (∃ a e, dsc = .map a e ∧ k = 5) ∨ (∃ a r v, dsc = .func a r v ∧ k = 6))
    (hx : VRel φ x x') (hy : VRel φ y y') (he : eqk k x y = some b) : (Op.equalIn (d + 1) t x' y').run P w = .ok b w := by
  unfold eqk at he
  split at he
  · obtain rfl : dsc = .bool := by simpa using hk
    cases hx; cases hy
    simp only [Option.some.injEq] at he; subst he
    simp [Op.equalIn, run_underlying hu]
  · obtain ⟨i, rfl⟩ : ∃ i, dsc = .int i := by simpa using hk
    cases hx; cases hy
    split at he
    · rename_i hkk; subst hkk
      simp only [Option.some.injEq] at he; subst he
      simp [Op.equalIn, run_underlying hu]
    · simp at he
  · obtain rfl : dsc = .string := by simpa using hk
    cases hx; cases hy
    rename_i s t'
    simp only [Option.some.injEq] at he; subst he
    simp only [Op.equalIn, run_underlying hu, Sem.run_bind, Result.andThen_ok, Sem.run_pure]
    rw [beq_bytes]
  · obtain ⟨i, rfl⟩ : ∃ i, dsc = .pointer i := by simpa using hk
    simp only [Option.some.injEq] at he; subst he
    cases hx; cases hy <;> simp [Op.equalIn, run_underlying hu]
  · obtain ⟨i, rfl⟩ : ∃ i, dsc = .pointer i := by simpa using hk
    simp only [Option.some.injEq] at he; subst he
    cases hx; cases hy; simp [Op.equalIn, run_underlying hu]
  · obtain ⟨i, rfl⟩ : ∃ i, dsc = .slice i := by simpa using hk
    simp only [Option.some.injEq] at he; subst he
    cases hx; cases hy <;> simp [Op.equalIn, run_underlying hu]
  · obtain ⟨i, rfl⟩ : ∃ i, dsc = .slice i := by simpa using hk
    simp only [Option.some.injEq] at he; subst he
    cases hx; cases hy; simp [Op.equalIn, run_underlying hu]
  · obtain ⟨a, e, rfl⟩ : ∃ a e, dsc = .map a e := by simpa using hk
    simp only [Option.some.injEq] at he; subst he
    cases hx; cases hy <;> simp [Op.equalIn, run_underlying hu]
  · obtain ⟨a, e, rfl⟩ : ∃ a e, dsc = .map a e := by simpa using hk
    simp only [Option.some.injEq] at he; subst he
    cases hx; cases hy; simp [Op.equalIn, run_underlying hu]
  · obtain ⟨a, r, v, rfl⟩ : ∃ a r v, dsc = .func a r v := by simpa using hk
    simp only [Option.some.injEq] at he; subst he
    cases hx; cases hy; simp [Op.equalIn, run_underlying hu]
  · obtain ⟨a, r, v, rfl⟩ : ∃ a r v, dsc = .func a r v := by simpa using hk
    simp only [Option.some.injEq] at he; subst he
    cases hx; cases hy; simp [Op.equalIn, run_underlying hu]
  · obtain ⟨a, r, v, rfl⟩ : ∃ a r v, dsc = .func a r v := by simpa using hk
    simp only [Option.some.injEq] at he; subst he
    cases hx; cases hy; simp [Op.equalIn, run_underlying hu]
  · simp at he

/-- The field after field. -/
theorem kinds_fields {φ : Phi} {F : TypeId → Option (List Nat)} {d : Nat}
    (hA : ∀ t ks, F t = some ks → aggT P t = some true ∨ (aggT P t = some false ∧ ∃ k, ks = [k]))
    (hF : ∀ t ks, F t = some ks → ∀ {agg : Bool} {x x' y y' : Value} {b : Bool}, aggT P t = some agg → VRel φ x x' → VRel φ y y' → eqT ks agg x y = some b → (Op.equalIn d t x' y').run P w = .ok b w)
    {xs ys xs' ys' : List Value} (hx : VsRel φ xs xs') (hy : VsRel φ ys ys') (h1 : oneCs xs = true) (h2 : oneCs ys = true) :
    ∀ (fs : List Field) (o : Nat) (ks : List Nat) (b : Bool), kindsFs P F fs o = some ks → eqks ks (xs.drop o) (ys.drop o) = some b → (Op.eqFields d ⟨xs'⟩ ⟨ys'⟩ fs).run P w = .ok b w
  | [], o, ks, b, hk, he => by
    simp only [kindsFs, Option.some.injEq] at hk
    subst hk
    have := eqks_len he
    cases hxs : xs.drop o <;> cases hys : ys.drop o <;> simp_all [eqks, Op.eqFields]
  | f :: fs, o, ks, b, hk, he => by
    simp only [kindsFs] at hk
    split at hk
    · rename_i hof
      simp only [Bool.and_eq_true, beq_iff_eq, bne_iff_ne, ne_eq] at hof
      obtain ⟨rfl, hnm⟩ := hof
      split at hk
      · rename_i fk n hfk hn
        split at hk
        · rename_i hlen
          split at hk
          · rename_i qs hqs
            simp only [Option.some.injEq] at hk
            subst hk
            obtain ⟨p, q, e1, e2, rfl⟩ := eqks_split he
            rw [List.drop_drop, List.drop_drop, hlen] at e2
            have ih := kinds_fields hA hF hx hy h1 h2 fs (f.offset + n) qs q hqs e2
            have hl := eqks_len e1
            -- the part
            have hfield : ∃ a b', (part f.type ⟨xs'⟩ f.offset).run P w = .ok a w ∧ (part f.type ⟨ys'⟩ f.offset).run P w = .ok b' w ∧ (Op.equalIn d f.type a b').run P w = .ok p w := by
              rcases hA f.type fk hfk with hagg | ⟨hagg, k, rfl⟩
              · refine ⟨_, _, run_part_agg w hagg hn, run_part_agg w hagg hn, hF f.type fk hfk (agg := true) (x := .agg ⟨(xs.drop f.offset).take n⟩) (y := .agg ⟨(ys.drop f.offset).take n⟩) hagg (.agg ((hx.drop _).take _) (oneCs_take _ (oneCs_drop _ h1))) (.agg ((hy.drop _).take _) (oneCs_take _ (oneCs_drop _ h2))) ?_⟩
                rw [hlen] at e1
                exact e1
              · simp only [List.length_singleton] at e1 hl
                cases hxs : xs[f.offset]? with
                | none =>
                  have : (xs.drop f.offset) = [] := by
                    apply List.drop_eq_nil_of_le
                    exact List.getElem?_eq_none_iff.1 hxs
                  rw [this] at hl; simp at hl
                | some u =>
                  cases hys : ys[f.offset]? with
                  | none =>
                    have : (ys.drop f.offset) = [] := by
                      apply List.drop_eq_nil_of_le
                      exact List.getElem?_eq_none_iff.1 hys
                    rw [this] at hl; simp at hl
                  | some v =>
                    obtain ⟨u', a1, a2⟩ := hx.get hxs
                    obtain ⟨v', b1, b2⟩ := hy.get hys
                    have ex : (xs.drop f.offset).take 1 = [u] := by
                      rw [List.take_one, List.head?_drop, hxs]; rfl
                    have ey : (ys.drop f.offset).take 1 = [v] := by
                      rw [List.take_one, List.head?_drop, hys]; rfl
                    rw [ex, ey] at e1
                    have e1' : eqT [k] false u v = some p := by
                      simp only [eqks] at e1
                      cases hq : eqk k u v with
                      | none => rw [hq] at e1; simp at e1
                      | some q => rw [hq] at e1; simp at e1; subst e1; simp [eqT, hq]
                    exact ⟨u', v', run_part_one w hagg a1, run_part_one w hagg b1, hF f.type [k] hfk hagg a2 b2 e1'⟩
            obtain ⟨a, b', g1, g2, g3⟩ := hfield
            simp only [Op.eqFields, if_pos hnm, Sem.run_bind, g1, g2, g3, Result.andThen_ok]
            cases p
            · simp
            · simpa using ih
          · simp at hk
        · simp at hk
      · simp at hk
    · simp at hk

theorem kindsFs_ne {F : TypeId → Option (List Nat)} : ∀ (fs : List Field) (o : Nat) (ks : List Nat), kindsFs P F fs o = some ks → True := fun _ _ _ _ => trivial

theorem kindsT_agg : ∀ (d : Nat) (t : TypeId) (ks : List Nat), kindsT P d t = some ks → aggT P t = some true ∨ (aggT P t = some false ∧ ∃ k, ks = [k])
  | 0, t, ks, h => by simp [kindsT] at h
  | d + 1, t, ks, h => by
    unfold kindsT at h
    unfold aggT
    split at h <;> rename_i hu <;> (try rw [hu]) <;> simp at h <;> (try subst h) <;> simp

/-- '==' of values of such a type. -/
theorem eqT_sound {φ : Phi} : ∀ (d : Nat) (t : TypeId) (ks : List Nat), kindsT P d t = some ks → ∀ (n : Nat), d ≤ n → ∀ {agg : Bool} {x x' y y' : Value} {b : Bool}, aggT P t = some agg → VRel φ x x' → VRel φ y y' →
    eqT ks agg x y = some b → (Op.equalIn n t x' y').run P w = .ok b w
  | 0, t, ks, hk, _, _, _, _, _, _, _, _, _, _, _, _ => by simp [kindsT] at hk
  | d + 1, t, ks, hk, n, hn, agg, x, x', y, y', b, ha, hx, hy, he => by
    obtain ⟨n, rfl⟩ : ∃ m, n = m + 1 := ⟨n - 1, by omega⟩
    unfold kindsT at hk
    unfold aggT at ha
    split at hk <;> rename_i hu
    case h_8 =>
      rename_i fs
      rw [hu] at ha
      simp only [Option.some.injEq] at ha
      subst ha
      split at hk
      · simp at hk
      · rename_i hst
        simp only [eqT] at he
        split at he
        · rename_i xs ys
          cases hx with
          | agg hx h1 =>
            cases hy with
            | agg hy h2 =>
              have hf : P.fieldsOf t = fs := by simp [Program.fieldsOf, hu]
              rw [run_equalIn_struct (P := P) w n t _ _ (by rw [hf]; exact hu) (by simpa using hst), hf]
              exact kinds_fields w (kindsT_agg d) (fun t ks hk agg x x' y y' b ha hx hy he => eqT_sound d t ks hk n (by omega) ha hx hy he) hx hy h1 h2 fs.toList 0 ks b hk (by simpa using he)
        · simp at he
    all_goals first
      | (simp at hk; done)
      | (rw [hu] at ha
         simp only [Option.some.injEq] at ha hk
         subst ha; subst hk
         simp only [eqT] at he
         exact eqk_sound w n _ hu (by simp) hx hy he)

theorem run_binEq {t : TypeId} {x y : Value} {b : Bool} (neg : Bool)
    (hx : (∀ k a, x ≠ .int k a) ∧ (∀ k a, x ≠ .float k a) ∧ (∀ k a c, x ≠ .complex k a c) ∧ (∀ a, x ≠ .string a))
    (h : (Op.equal t x y).run P w = .ok b w) : (binOp (if neg then .neq else .eql) t x y).run P w = .ok (.bool (if neg then !b else b)) w := by
  obtain ⟨g1, g2, g3, g4⟩ := hx
  cases x <;> first
    | exact absurd rfl (g1 _ _)
    | exact absurd rfl (g2 _ _)
    | exact absurd rfl (g3 _ _ _)
    | exact absurd rfl (g4 _)
    | (cases neg <;> simp [binOp, h])

theorem eqT_false {ks : List Nat} {x y : Value} {b : Bool} (h : eqT ks false x y = some b) : ∃ k, ks = [k] ∧ eqk k x y = some b := by
  simp only [eqT] at h
  split at h
  · exact ⟨_, rfl, h⟩
  · simp at h

theorem eqT_true {ks : List Nat} {x y : Value} {b : Bool} (h : eqT ks true x y = some b) : ∃ xs ys, x = .agg ⟨xs⟩ ∧ y = .agg ⟨ys⟩ ∧ eqks ks xs ys = some b := by
  simp only [eqT] at h
  split at h
  · exact ⟨_, _, rfl, rfl, h⟩
  · simp at h

/-- '==' and '!='. -/
theorem eqb_sound {φ : Phi} {t : TypeId} {ks : List Nat} {agg neg : Bool} {x x' y y' r : Value} (hk : eqOk P t = some (ks, agg)) (hx : VRel φ x x') (hy : VRel φ y y') (he : eqb ks agg neg x y = some r) (xo yo : Operand) :
    ∃ b : Bool, r = .bool b ∧ (eqGuard (if neg then .neq else .eql) t xo yo x' y').run P w = .ok () w ∧ (binOp (if neg then .neq else .eql) t x' y').run P w = .ok (.bool b) w := by
  simp only [eqb, Option.map_eq_some_iff] at he
  obtain ⟨b0, hb, rfl⟩ := he
  refine ⟨if neg then !b0 else b0, by cases neg <;> rfl, ?_⟩
  unfold eqOk at hk
  split at hk
  · rename_i ks' hks ha
    split at hk
    · simp at hk
    · rename_i hg
      simp only [Option.some.injEq, Prod.mk.injEq] at hk
      obtain ⟨rfl, rfl⟩ := hk
      have heq := eqT_sound w 9 t ks' hks 10000 (by omega) ha hx hy hb
      obtain ⟨xs, ys, rfl, rfl, _⟩ := eqT_true hb
      cases hx; cases hy
      exact ⟨run_eqGuard_agg w _ t xo yo _ _ (by simpa using hg), run_binEq w neg (by simp) heq⟩
  · rename_i ks' hks ha
    simp only [Option.some.injEq, Prod.mk.injEq] at hk
    obtain ⟨rfl, rfl⟩ := hk
    have heq := eqT_sound w 9 t ks' hks 10000 (by omega) ha hx hy hb
    obtain ⟨k, rfl, hb2⟩ := eqT_false hb
    clear hb
    rename eqk k x y = some b0 => hb
    unfold eqk at hb
    split at hb
    · cases hx; cases hy
      exact ⟨by cases neg <;> simp [eqGuard], run_binEq w neg (by simp) heq⟩
    · split at hb
      · rename_i hkk; subst hkk
        cases hx; cases hy
        simp only [Option.some.injEq] at hb; subst hb
        exact ⟨by cases neg <;> simp [eqGuard], by cases neg <;> simp [binOp, Op.intCmp, bne]⟩
      · simp at hb
    · cases hx; cases hy
      rename_i s t'
      simp only [Option.some.injEq] at hb; subst hb
      refine ⟨by cases neg <;> simp [eqGuard], ?_⟩
      have := beq_bytes s t'
      rw [beq_toListBytes] at this
      cases neg <;> simp [binOp, Op.stringOp, this]
    · cases hx; cases hy <;> exact ⟨by cases neg <;> simp [eqGuard], run_binEq w neg (by simp) heq⟩
    · cases hx; cases hy; exact ⟨by cases neg <;> simp [eqGuard], run_binEq w neg (by simp) heq⟩
    · cases hx; cases hy <;> exact ⟨by cases neg <;> simp [eqGuard], run_binEq w neg (by simp) heq⟩
    · cases hx; cases hy; exact ⟨by cases neg <;> simp [eqGuard], run_binEq w neg (by simp) heq⟩
    · cases hx; cases hy <;> exact ⟨by cases neg <;> simp [eqGuard], run_binEq w neg (by simp) heq⟩
    · cases hx; cases hy; exact ⟨by cases neg <;> simp [eqGuard], run_binEq w neg (by simp) heq⟩
    · cases hx; cases hy; exact ⟨by cases neg <;> simp [eqGuard], run_binEq w neg (by simp) heq⟩
    · cases hx; cases hy; exact ⟨by cases neg <;> simp [eqGuard], run_binEq w neg (by simp) heq⟩
    · cases hx; cases hy; exact ⟨by cases neg <;> simp [eqGuard], run_binEq w neg (by simp) heq⟩
    · simp at hb
  · simp at hk

theorem iface_eq {t : TypeId} {ms : Array (String × TypeId)} (hu : P.underlying t = some (.interface ms)) (d : Nat) : (Op.equalIn (d + 1) t .nilIface .nilIface).run P w = .ok true w ∧
    (∀ a v, (Op.equalIn (d + 1) t .nilIface (.iface a v)).run P w = .ok false w) ∧ ∀ a v, (Op.equalIn (d + 1) t (.iface a v) .nilIface).run P w = .ok false w := by
  refine ⟨?_, fun a v => ?_, fun a v => ?_⟩ <;> simp [Op.equalIn, run_underlying hu]

theorem eqI_sound {φ : Phi} {t : TypeId} {neg : Bool} {x x' y y' r : Value} {xo yo : Operand} (hc : ifaceC P t xo yo = true) (hx : VRel φ x x') (hy : VRel φ y y') (he : eqI neg x y = some r) :
    ∃ b : Bool, r = .bool b ∧ (eqGuard (if neg then .neq else .eql) t xo yo x' y').run P w = .ok () w ∧ (binOp (if neg then .neq else .eql) t x' y').run P w = .ok (.bool b) w := by
  unfold ifaceC at hc
  split at hc
  · rename_i ms hu
    obtain ⟨q1, q2, q3⟩ := iface_eq (P := P) w hu 9999
    have hg : (eqGuard (if neg then .neq else .eql) t xo yo .nilIface .nilIface).run P w = .ok () w := by
      cases neg <;> cases xo <;> cases yo <;> first | (have h0 : false = true := hc; cases h0) | simp [eqGuard]
    unfold eqI at he
    split at he
    · cases hx; cases hy
      simp only [Option.some.injEq] at he; subst he
      refine ⟨_, rfl, hg, ?_⟩
      have := run_binEq (P := P) w neg (t := t) (x := .nilIface) (y := .nilIface) (b := true) (by simp) q1
      cases neg <;> exact this
    · cases hx
      cases hy with
      | iface a h =>
        rename_i ti vi vi'
        simp only [Option.some.injEq] at he; subst he
        refine ⟨_, rfl, by cases neg <;> simp [eqGuard], ?_⟩
        have := run_binEq (P := P) w neg (t := t) (x := .nilIface) (y := .iface ti vi') (b := false) (by simp) (q2 _ _)
        cases neg <;> exact this
    · cases hy
      cases hx with
      | iface a h =>
        rename_i ti vi vi'
        simp only [Option.some.injEq] at he; subst he
        refine ⟨_, rfl, by cases neg <;> simp [eqGuard], ?_⟩
        have := run_binEq (P := P) w neg (t := t) (x := .iface ti vi') (y := .nilIface) (b := false) (by simp) (q3 _ _)
        cases neg <;> exact this
    · simp at he
  · simp at hc

theorem run0_run {α : Type} {m : Sem α} {a : α} (h : run0 m = some a) : m.run P w = .ok a w := by
  cases m <;> simp [run0] at h
  subst h
  rfl

end

theorem run0_pure {α : Type} (a : α) : run0 (Pure.pure a : Sem α) = some a := rfl
theorem run0_ite {α : Type} (c : Prop) [Decidable c] (x y : Sem α) : run0 (if c then x else y) = if c then run0 x else run0 y := by split <;> rfl
theorem run0_stuck {α : Type} (s : String) : run0 (stuck s : Sem α) = none := rfl
theorem run0_panic {α : Type} (e : RuntimeError) : run0 (runtimePanic e : Sem α) = none := rfl
theorem run0_bind {α β : Type} (x : α) (f : α → Sem β) : run0 ((Pure.pure x : Sem α) >>= f) = run0 (f x) := rfl

theorem bin_int {op : BinOp} {k k' : IntKind} {a c : Int} {r : Value} (he : run0 (binOp op 0 (.int k a) (.int k' c)) = some r) : (∃ k n, r = .int k n) ∨ ∃ b, r = .bool b := by
  by_cases hk : k = k'
  · subst hk
    cases op <;> simp [binOp, Op.shift, Op.intArith, Op.intDiv, Op.intBits, Op.intCmp, run0_pure, run0_ite, run0_stuck, run0_panic] at he <;>
      first
        | exact .inl ⟨_, _, he.symm⟩
        | exact .inl ⟨_, _, he.2.symm⟩
        | exact .inr ⟨_, he.symm⟩
  · cases op <;> simp [binOp, hk, Op.shift, Op.intArith, Op.intDiv, Op.intBits, Op.intCmp, run0_pure, run0_ite, run0_stuck, run0_panic] at he <;>
      first
        | exact .inl ⟨_, _, he.symm⟩
        | exact .inl ⟨_, _, he.2.symm⟩
        | exact .inr ⟨_, he.symm⟩

section
variable {P : Program} (w : World)

theorem bin_sound {φ : Phi} {op : BinOp} {t : TypeId} {x x' y y' r : Value} (hop : op ≠ .eql) (hop2 : op ≠ .neq) (hx : VRel φ x x') (hy : VRel φ y y') (he : bin op x y = some r) (xo yo : Operand) :
    plainV r = true ∧ (eqGuard op t xo yo x' y').run P w = .ok () w ∧ (binOp op t x' y').run P w = .ok r w := by
  have hg : (eqGuard op t xo yo x' y').run P w = .ok () w := by
    cases op <;> first | exact absurd rfl hop | exact absurd rfl hop2 | simp [eqGuard]
  unfold bin at he
  split at he
  · cases hx; cases hy
    rename_i k a k' c
    have hb : binOp op t (.int k a) (.int k' c) = binOp op 0 (.int k a) (.int k' c) := by cases op <;> rfl
    refine ⟨?_, hg, by rw [hb]; exact run0_run w he⟩
    rcases bin_int he with ⟨k, n, rfl⟩ | ⟨b, rfl⟩ <;> rfl
  · cases hx; cases hy
    rename_i a c
    have hbq : (a.toList == c.toList) = decide (a = c) := by rw [← beq_toListBytes]; exact beq_bytes a c
    have hl : ∀ b : ByteArray, b.toList = b.data.toList := ByteArray.toList_eq
    split at he
    · split at he
      · rename_i hsz
        simp only [Option.some.injEq] at he; subst he
        have : ¬ (((a.size + c.size : Nat) : Int) > IntKind.i64.max) := by
          simp [IntKind.max, IntKind.signed, IntKind.bits]; omega
        exact ⟨rfl, hg, by simp only [binOp, Op.stringOp, if_neg this, Sem.run_pure]⟩
      · simp at he
    all_goals first
      | (simp only [Option.some.injEq] at he; subst he
         refine ⟨rfl, hg, ?_⟩
         simp only [binOp, Op.stringOp, Sem.run_pure]
         (try rw [hbq])
         simp only [hl])
      | (simp at he; done)
  · simp at he

theorem un_sound {φ : Phi} {op : UnOp} {x x' r : Value} (hx : VRel φ x x') (he : un op x = some r) : plainV r = true ∧ (Op.unary op x').run P w = .ok r w := by
  unfold un at he
  split at he
  · cases hx
    refine ⟨?_, run0_run w he⟩
    cases op <;> simp [Op.unary, Op.intArith, Op.intBits, run0_pure, run0_stuck] at he <;> subst he <;> rfl
  · cases hx
    refine ⟨?_, run0_run w he⟩
    cases op <;> simp [Op.unary, run0_pure, run0_stuck] at he <;> subst he <;> rfl
  · simp at he

end

end Go.Sim
