/-
  Maps.
-/
import Derived.Test.YtkkgegocliobpaaSimI
import Derived.Carry
set_option linter.unusedSimpArgs false
namespace Go.Sim

section
variable {P : Program} (w : World)

/-- What `checkKey` does with a struct's fields. -/
def ckFields (em : Bool) (n : Nat) (cs : Array Value) : List Field → Sem Unit
  | [] => pure ()
  | f :: fs => do
    if f.name ≠ "_" then Instr.checkKey em n f.type (← part f.type cs f.offset)
    ckFields em n cs fs

theorem ck_struct (em : Bool) (n : Nat) (t : TypeId) (cs : Array Value) (fs : Array Field) (ht : P.underlying t = some (.struct fs)) :
    (Instr.checkKey em (n + 1) t (.agg cs)).run P w = (ckFields em n cs fs.toList).run P w := by
  simp only [Instr.checkKey, Sem.run_bind, run_underlying ht, Result.andThen_ok]
  rw [← Array.forIn_toList]
  generalize fs.toList = l
  clear ht
  induction l generalizing w with
  | nil => simp [ckFields]
  | cons f l ih =>
    simp only [List.forIn_cons, ckFields, Sem.run_bind]
    split
    · simp only [Sem.run_bind]
      generalize (part f.type cs f.offset).run P w = r1
      cases r1 with
      | ok a w1 =>
        simp only [Result.andThen_ok]
        generalize (Instr.checkKey em n f.type a).run P w1 = r2
        cases r2 with
        | ok b w2 => simp only [Result.andThen_ok, Sem.run_pure]; exact ih w2
        | halt x w2 => simp [Result.andThen]
      | halt x w1 => simp [Result.andThen]
    · simp only [Sem.run_pure, Result.andThen_ok]
      exact ih w

/-- The shape of a key of such kinds. -/
def shapeK (n : Nat) (agg : Bool) (k : Value) : Prop := match agg with
  | true => ∃ l, k = .agg ⟨l⟩ ∧ l.length = n ∧ oneCs l = true
  | false => oneC k = true

theorem ck_sound : ∀ (d : Nat) (t : TypeId) (ks : List Nat), kindsT P d t = some ks → ∀ (n : Nat), d ≤ n → ∀ (em : Bool) {agg : Bool} {k : Value}, aggT P t = some agg → shapeK ks.length agg k →
    (Instr.checkKey em n t k).run P w = .ok () w
  | 0, t, ks, hk, _, _, _, _, _, _, _ => by simp [kindsT] at hk
  | d + 1, t, ks, hk, n, hn, em, agg, k, ha, hs => by
    obtain ⟨n, rfl⟩ : ∃ m, n = m + 1 := ⟨n - 1, by omega⟩
    unfold kindsT at hk
    unfold aggT at ha
    split at hk <;> rename_i hu
    case h_8 =>
      rename_i fs
      rw [hu] at ha
      simp only [Option.some.injEq] at ha
      subst ha
      split at hk
      · simp at hk
      · obtain ⟨l, rfl, hl, h1⟩ := hs
        rw [ck_struct w em n t _ fs hu]
        have : ∀ (fs : List Field) (o : Nat) (ks : List Nat), kindsFs P (kindsT P d) fs o = some ks → o + ks.length ≤ l.length → (ckFields em n ⟨l⟩ fs).run P w = .ok () w := by
          intro fs
          induction fs with
          | nil => intro o ks hk _; simp [ckFields]
          | cons f fs ih =>
            intro o ks hk hle
            simp only [kindsFs] at hk
            split at hk
            · rename_i hof
              simp only [Bool.and_eq_true, beq_iff_eq, bne_iff_ne, ne_eq] at hof
              obtain ⟨rfl, hnm⟩ := hof
              split at hk
              · rename_i fk m hfk hm
                split at hk
                · rename_i hlen
                  split at hk
                  · rename_i qs hqs
                    simp only [Option.some.injEq] at hk
                    subst hk
                    simp only [List.length_append] at hle
                    have hrest := ih (f.offset + m) qs hqs (by omega)
                    rcases kindsT_agg d f.type fk hfk with hagg | ⟨hagg, kk, rfl⟩
                    · have hck := ck_sound d f.type fk hfk n (by omega) em (agg := true) (k := .agg ⟨(l.drop f.offset).take m⟩) hagg ⟨_, rfl, by simp; omega, oneCs_take _ (oneCs_drop _ h1)⟩
                      simp only [ckFields, if_pos hnm, Sem.run_bind, run_part_agg w hagg hm, Result.andThen_ok, hck, hrest]
                    · simp only [List.length_singleton] at hlen hle
                      have hlt : f.offset < l.length := by omega
                      have hv : l[f.offset]? = some l[f.offset] := List.getElem?_eq_getElem hlt
                      have hck := ck_sound d f.type [kk] hfk n (by omega) em (agg := false) (k := l[f.offset]) hagg (oneCs_get h1 hv)
                      simp only [ckFields, if_pos hnm, Sem.run_bind, run_part_one w hagg hv, Result.andThen_ok, hck, hrest]
                  · simp at hk
                · simp at hk
              · simp at hk
            · simp at hk
        exact this fs.toList 0 ks hk (by omega)
    all_goals first
      | (simp at hk; done)
      | (rw [hu] at ha
         simp only [Option.some.injEq] at ha
         subst ha
         have hs : oneC k = true := hs
         cases k <;> simp [oneC] at hs <;> simp [Instr.checkKey, run_underlying hu])

theorem keyS_shape {n : Nat} {agg : Bool} {k : Value} (h : keyS n agg k = true) : plainV k = true ∧ shapeK n agg k := by
  simp only [keyS, Bool.and_eq_true] at h
  refine ⟨h.1, ?_⟩
  cases agg with
  | false => exact h.2
  | true =>
    have h2 := h.2
    cases k <;> simp at h2
    rename_i a
    obtain ⟨l⟩ := a
    have hp := h.1
    simp only [plainV, Bool.and_eq_true] at hp
    exact ⟨l, rfl, h2, hp.2⟩

/-! ### Finding a key -/

/-- The model's entries against ours. -/
def EsRel (φ : Phi) (es : List (Value × Value)) (es' : List MapEntry) : Prop :=
  es.length = es'.length ∧ ∀ (i : Nat) k v, es[i]? = some (k, v) → plainV k = true ∧ ∃ e : MapEntry, es'[i]? = some e ∧ e.key = k ∧ VRel φ v e.val

theorem EsRel.tail {φ : Phi} {p : Value × Value} {es : List (Value × Value)} {e : MapEntry} {es' : List MapEntry} (h : EsRel φ (p :: es) (e :: es')) : plainV p.1 = true ∧ e.key = p.1 ∧ VRel φ p.2 e.val ∧ EsRel φ es es' := by
  obtain ⟨h1, h2⟩ := h
  obtain ⟨hp, e', he, hk, hv⟩ := h2 0 p.1 p.2 rfl
  simp only [List.getElem?_cons_zero, Option.some.injEq] at he
  subst he
  exact ⟨hp, hk, hv, by simpa using h1, fun i k v hi => by simpa using h2 (i + 1) k v (by simpa using hi)⟩

theorem sameNow_eqT {t : TypeId} {dsc : TypeDesc} {ks : List Nat} {agg b b' : Bool} {x y : Value} (hu : P.underlying t = some dsc) (hk : kindsT P 9 t = some ks) (ha : aggT P t = some agg)
    (h : Instr.sameNow dsc x y = some b') (he : eqT ks agg x y = some b) : b' = b := by
  unfold Instr.sameNow at h
  unfold kindsT at hk
  unfold aggT at ha
  rw [hu] at hk ha
  split at h
  · simp only [Option.some.injEq] at hk ha
    subst hk; subst ha
    split at h
    · rename_i hkk; subst hkk
      simp only [Option.some.injEq] at h
      simp [eqT, eqk] at he
      rw [← h, ← he]
    · simp at h
  · simp only [Option.some.injEq] at hk ha h
    subst hk; subst ha
    simp [eqT, eqk] at he
    rw [← h, ← he, beq_bytes]
  · simp only [Option.some.injEq] at hk ha h
    subst hk; subst ha
    simp [eqT, eqk] at he
    rw [← h, ← he]
  · simp at h

theorem findNow_sound {φ : Phi} {t : TypeId} {dsc : TypeDesc} {ks : List Nat} {agg : Bool} {k : Value} (hu : P.underlying t = some dsc) (hk : kindsT P 9 t = some ks) (ha : aggT P t = some agg) :
    ∀ (es : List (Value × Value)) (es' : List MapEntry) (i0 : Nat) (o : Option Nat), EsRel φ es es' → findM ks agg es k = some o →
      Instr.findNow dsc k es' i0 = none ∨ ∃ r, Instr.findNow dsc k es' i0 = some r ∧ ((o = none ∧ r = none) ∨ ∃ i e, o = some i ∧ es'[i]? = some e ∧ r = some (i0 + i, e.val))
  | [], [], i0, o, _, hf => by
    simp only [findM, Option.some.injEq] at hf
    subst hf
    exact .inr ⟨none, rfl, .inl ⟨rfl, rfl⟩⟩
  | p :: es, e :: es', i0, o, hr, hf => by
    obtain ⟨h1, h2, h3, h4⟩ := hr.tail
    simp only [findM] at hf
    cases he : eqT ks agg k p.1 with
    | none => simp [he] at hf
    | some b =>
      simp only [he, Option.bind_some] at hf
      unfold Instr.findNow
      cases hs : Instr.sameNow dsc k e.key with
      | none => exact .inl rfl
      | some b' =>
        have := sameNow_eqT hu hk ha hs (h2 ▸ he)
        subst this
        cases b' with
        | true =>
          simp only [if_true, Option.some.injEq] at hf
          subst hf
          exact .inr ⟨_, rfl, .inr ⟨0, e, rfl, rfl, rfl⟩⟩
        | false =>
          simp only [Bool.false_eq_true, if_false, Option.map_eq_some_iff] at hf
          obtain ⟨o', ho, rfl⟩ := hf
          rcases findNow_sound hu hk ha es es' (i0 + 1) o' h4 ho with h | ⟨r, h5, h6⟩
          · exact .inl h
          · refine .inr ⟨r, h5, ?_⟩
            rcases h6 with ⟨rfl, rfl⟩ | ⟨i, e', rfl, h7, rfl⟩
            · exact .inl ⟨rfl, rfl⟩
            · exact .inr ⟨i + 1, e', rfl, by simpa using h7, by congr 2; omega⟩
  | [], _ :: _, _, _, hr, _ => by have := hr.1; simp at this
  | _ :: _, [], _, _, hr, _ => by have := hr.1; simp at this

theorem findAsking_sound {φ : Phi} {t : TypeId} {ks : List Nat} {agg : Bool} {k : Value} (hk : kindsT P 9 t = some ks) (ha : aggT P t = some agg) (hpk : plainV k = true) :
    ∀ (es : List (Value × Value)) (es' : List MapEntry) (i0 : Nat) (o : Option Nat), EsRel φ es es' → findM ks agg es k = some o →
      ∃ r, (Instr.findAsking t k es' i0).run P w = .ok r w ∧ ((o = none ∧ r = none) ∨ ∃ i e, o = some i ∧ es'[i]? = some e ∧ r = some (i0 + i, e.val))
  | [], [], i0, o, _, hf => by
    simp only [findM, Option.some.injEq] at hf
    subst hf
    exact ⟨none, by simp [Instr.findAsking], .inl ⟨rfl, rfl⟩⟩
  | p :: es, e :: es', i0, o, hr, hf => by
    obtain ⟨h1, h2, h3, h4⟩ := hr.tail
    simp only [findM] at hf
    cases he : eqT ks agg k p.1 with
    | none => simp [he] at hf
    | some b =>
      simp only [he, Option.bind_some] at hf
      have heq : (Op.equal t k e.key).run P w = .ok b w := by
        rw [h2]
        exact eqT_sound w 9 t ks hk 10000 (by omega) ha (VRel.of_plain φ hpk) (VRel.of_plain φ h1) he
      cases b with
      | true =>
        simp only [if_true, Option.some.injEq] at hf
        subst hf
        exact ⟨some (i0, e.val), by simp [Instr.findAsking, heq], .inr ⟨0, e, rfl, rfl, rfl⟩⟩
      | false =>
        simp only [Bool.false_eq_true, if_false, Option.map_eq_some_iff] at hf
        obtain ⟨o', ho, rfl⟩ := hf
        obtain ⟨r, h5, h6⟩ := findAsking_sound hk ha hpk es es' (i0 + 1) o' h4 ho
        refine ⟨r, by simp [Instr.findAsking, heq, h5], ?_⟩
        rcases h6 with ⟨rfl, rfl⟩ | ⟨i, e', rfl, h7, rfl⟩
        · exact .inl ⟨rfl, rfl⟩
        · exact .inr ⟨i + 1, e', rfl, by simpa using h7, by congr 2; omega⟩
  | [], _ :: _, _, _, hr, _ => by have := hr.1; simp at this
  | _ :: _, [], _, _, hr, _ => by have := hr.1; simp at this

theorem findKey_sound {φ : Phi} {t : TypeId} {ks : List Nat} {agg : Bool} {k : Value} (hk : kindsT P 9 t = some ks) (ha : aggT P t = some agg) (hpk : plainV k = true)
    {es : List (Value × Value)} {es' : List MapEntry} {o : Option Nat} (hr : EsRel φ es es') (hf : findM ks agg es k = some o) :
    ∃ r, (Instr.findKey t k es').run P w = .ok r w ∧ ((o = none ∧ r = none) ∨ ∃ i e, o = some i ∧ es'[i]? = some e ∧ r = some (i, e.val)) := by
  have hu : ∃ dsc, P.underlying t = some dsc := by
    unfold aggT at ha
    cases h : P.underlying t with
    | none => simp [h] at ha
    | some d => exact ⟨d, rfl⟩
  obtain ⟨dsc, hu⟩ := hu
  have hnow := findNow_sound (φ := φ) hu hk ha es es' 0 o hr hf
  rcases hnow with h | ⟨r, h1, h2⟩
  · obtain ⟨r, h1, h2⟩ := findAsking_sound w hk ha hpk es es' 0 o hr hf
    exact ⟨r, by simp [Instr.findKey, run_underlying hu, h, h1], by simpa using h2⟩
  · exact ⟨r, by simp [Instr.findKey, run_underlying hu, h1], by simpa using h2⟩

theorem findM_some {ks : List Nat} {agg : Bool} {k : Value} : ∀ {es : List (Value × Value)} {i : Nat}, findM ks agg es k = some (some i) → ∃ e, es[i]? = some e ∧ eqT ks agg k e.1 = some true
  | [], i, h => by simp [findM] at h
  | p :: es, i, h => by
    simp only [findM] at h
    cases he : eqT ks agg k p.1 with
    | none => simp [he] at h
    | some b =>
      simp only [he, Option.bind_some] at h
      cases b with
      | true =>
        simp only [if_true, Option.some.injEq] at h
        subst h
        exact ⟨p, rfl, he⟩
      | false =>
        simp only [Bool.false_eq_true, if_false, Option.map_eq_some_iff] at h
        obtain ⟨o', ho, hi⟩ := h
        cases o' with
        | none => simp at hi
        | some j =>
          have hi : j + 1 = i := by simpa using hi
          subst hi
          obtain ⟨e, h1, h2⟩ := findM_some ho
          exact ⟨e, by simpa using h1, h2⟩

theorem eqk_true {k n : Nat} {x y : Value} (hk : k ≤ 2) (h : eqk k x y = some true) : x = y ∧ Instr.sameBits n x y = true := by
  unfold eqk at h
  split at h <;> first | omega | skip
  · simp at h; subst h; cases n <;> simp [Instr.sameBits]
  · split at h
    · rename_i hkk; subst hkk; simp at h; subst h; cases n <;> simp [Instr.sameBits]
    · simp at h
  · simp at h; subst h
    refine ⟨rfl, ?_⟩
    cases n <;> simp [Instr.sameBits, beq_bytes]
  · simp at h

theorem eqks_true {n : Nat} : ∀ {ks : List Nat} {xs ys : List Value}, keyKinds ks = true → eqks ks xs ys = some true → xs = ys ∧ ((xs.zip ys).all fun p => Instr.sameBits n p.1 p.2) = true
  | [], [], [], _, _ => ⟨rfl, rfl⟩
  | k :: ks, x :: xs, y :: ys, hk, h => by
    simp only [keyKinds, Bool.and_eq_true, decide_eq_true_eq] at hk
    simp only [eqks] at h
    cases h1 : eqk k x y with
    | none => simp [h1] at h
    | some p =>
      cases h2 : eqks ks xs ys with
      | none => simp [h1, h2] at h
      | some q =>
        simp only [h1, h2, Option.bind_some, Option.some.injEq, Bool.and_eq_true] at h
        obtain ⟨rfl, rfl⟩ := h
        obtain ⟨rfl, e1⟩ := eqk_true (n := n) hk.1 h1
        obtain ⟨rfl, e2⟩ := eqks_true (n := n) hk.2 h2
        exact ⟨rfl, by simp only [List.zip_cons_cons, List.all_cons, e1, Bool.true_and]; exact e2⟩
  | [], _ :: _, _, _, h => by simp [eqks] at h
  | [], [], _ :: _, _, h => by simp [eqks] at h
  | _ :: _, [], _, _, h => by simp [eqks] at h
  | _ :: _, _ :: _, [], _, h => by simp [eqks] at h

theorem eqT_true_eq {n : Nat} {ks : List Nat} {agg : Bool} {x y : Value} (hk : keyKinds ks = true) (h : eqT ks agg x y = some true) : x = y ∧ Instr.sameBits (n + 1) x y = true := by
  cases agg with
  | false =>
    obtain ⟨k, rfl, h⟩ := eqT_false h
    simp only [keyKinds, Bool.and_true, decide_eq_true_eq] at hk
    exact eqk_true hk h
  | true =>
    obtain ⟨xs, ys, rfl, rfl, h⟩ := eqT_true h
    obtain ⟨rfl, e⟩ := eqks_true (n := n) hk h
    refine ⟨rfl, ?_⟩
    simp only [Instr.sameBits, beq_self_eq_true, Bool.true_and]
    exact e

theorem mkm_sound {φ : Phi} {s s' : St} {r : Value} (t : TypeId) (h : Rel φ s w) (hx : mkm s = some (r, s')) :
    ∃ φ', (Instr.makeMap t none).run P w = .ok (.map (some w.heap.size)) (w.alloc (.map #[] 0)) ∧ VRel φ' r (.map (some w.heap.size)) ∧ Step φ s w φ' s' (w.alloc (.map #[] 0)) := by
  simp only [mkm, Option.some.injEq, Prod.mk.injEq] at hx
  obtain ⟨rfl, rfl⟩ := hx
  let l : Loc := ⟨w.heap.size, 0, 0, 0⟩
  refine ⟨φ.add s.n l, by simp [Instr.makeMap], ?_, new_step (l := l) h (Nat.le_refl _) ?_ (fun c hc => heap_alloc_old w _ c hc) (by simp) rfl rfl rfl (fun a _ => Go.RowKit.frozen?_alloc_map w _ _ a)⟩
  · exact VRel.map (l := l) (Phi.add_self φ s.n l)
  · exact ⟨#[], 0, heap_alloc_new w _, rfl, fun i k v hi => by simp at hi⟩

theorem lkp_sound {φ : Phi} {s : St} {t kt e : TypeId} {ks : List Nat} {agg ok : Bool} {z m m' k k' r : Value} (h : Rel φ s w) (ht : P.underlying t = some (.map kt e)) (hk : kindsT P 9 kt = some ks) (ha : aggT P kt = some agg) (hz : zeroT P e = some z) (hpz : plainV z = true)
    (hm : VRel φ m m') (hkr : VRel φ k k') (hx : lkp s ks agg z ok m k = some r) : ∃ r', (Instr.lookup t m' k' ok).run P w = .ok r' w ∧ VRel φ r r' := by
  unfold lkp at hx
  split at hx
  · rename_i hks
    obtain ⟨hpk, hsh⟩ := keyS_shape hks
    have hkk' := (hkr.plain_eq hpk).symm
    subst hkk'
    have hck : ∀ em, (Instr.checkKey em 10000 kt k).run P w = .ok () w := fun em => ck_sound w 9 kt ks hk 10000 (by omega) em ha hsh
    have hzero : ∀ v, v = (if ok then Value.tuple ⟨[z, .bool false]⟩ else z) → VRel φ v (if ok then .tuple #[z, .bool false] else z) := by
      intro v hv
      subst hv
      cases ok
      · exact VRel.of_plain φ hpz
      · exact .tuple (.cons (VRel.of_plain φ hpz) (.cons (.bool _) .nil))
    split at hx
    · cases hm
      simp only [Option.some.injEq] at hx
      refine ⟨_, ?_, hzero r hx.symm⟩
      have hfk : (Instr.findKey kt k []).run P w = .ok none w := by
        obtain ⟨q, h1, h2⟩ := findKey_sound (φ := φ) w hk ha hpk (es := []) (es' := []) (o := none) ⟨rfl, by simp⟩ rfl
        rcases h2 with ⟨_, rfl⟩ | ⟨i, e', h3, _⟩
        · exact h1
        · simp at h3
      simp only [Instr.lookup, Sem.run_bind, run_underlying ht, Result.andThen_ok, Sem.run_pure, hck, hfk, run_zeroValue w hz]
    · rename_i b
      cases hm with
      | @map _ l hl =>
        cases hb : s.get b with
        | none => simp [hb] at hx
        | some blk =>
          cases blk with
          | row sz rows ro => simp [hb] at hx
          | map es ro =>
            simp only [hb] at hx
            obtain ⟨l2, g2, hB⟩ := h.blk b _ hb
            rw [hl] at g2
            simp only [Option.some.injEq] at g2
            subst g2
            obtain ⟨es', clk, hh, k2, k3⟩ := hB
            cases hf : findM ks agg es k with
            | none => simp [hf] at hx
            | some o =>
              simp only [hf, Option.bind_some] at hx
              have hes : EsRel φ es es'.toList := ⟨by simpa using k2, fun i kk v hi => by simpa using k3 i kk v hi⟩
              obtain ⟨q, h1, h2⟩ := findKey_sound (φ := φ) w hk ha hpk hes hf
              have hobj : (getObj l.blk).run P w = .ok (.map es' clk) w := by simp [getObj, Sem.run, hh]
              rcases h2 with ⟨rfl, rfl⟩ | ⟨i, e', rfl, h3, rfl⟩
              · simp only [Option.some.injEq] at hx
                refine ⟨_, ?_, hzero r hx.symm⟩
                simp only [Instr.lookup, Sem.run_bind, run_underlying ht, Result.andThen_ok, Sem.run_pure, hobj, hck, h1, run_zeroValue w hz]
              · simp only at hx
                cases hei : es[i]? with
                | none => simp [hei] at hx
                | some p =>
                  simp only [hei, Option.map_some, Option.some.injEq] at hx
                  obtain ⟨_, e'', he'', _, hv⟩ := k3 i p.1 p.2 hei
                  have : e' = e'' := by
                    rw [Array.getElem?_toList, he''] at h3
                    exact (Option.some.inj h3).symm
                  subst this
                  refine ⟨if ok then .tuple #[e'.val, .bool true] else e'.val, ?_, ?_⟩
                  · simp only [Instr.lookup, Sem.run_bind, run_underlying ht, Result.andThen_ok, Sem.run_pure, hobj, hck, h1]
                  · subst hx
                    cases ok
                    · exact hv
                    · exact .tuple (.cons hv (.cons (.bool _) .nil))
    · simp at hx
  · simp at hx

theorem upm_sound {φ : Phi} {s s' : St} {t kt e : TypeId} {ks : List Nat} {agg : Bool} {m m' k k' v v' : Value} (h : Rel φ s w) (ht : P.underlying t = some (.map kt e)) (hk : kindsT P 9 kt = some ks) (ha : aggT P kt = some agg) (hkk : keyKinds ks = true)
    (hm : VRel φ m m') (hkr : VRel φ k k') (hv : VRel φ v v') (hx : upm s ks agg m k v = some s') : ∃ w', (Instr.mapUpdate t m' k' v').run P w = .ok () w' ∧ Step φ s w φ s' w' := by
  unfold upm at hx
  split at hx
  · rename_i hks
    obtain ⟨hpk, hsh⟩ := keyS_shape hks
    have hkk' := (hkr.plain_eq hpk).symm
    subst hkk'
    have hck : ∀ em, (Instr.checkKey em 10000 kt k).run P w = .ok () w := fun em => ck_sound w 9 kt ks hk 10000 (by omega) em ha hsh
    split at hx
    · rename_i b
      cases hm with
      | @map _ l hl =>
        cases hb : s.get b with
        | none => simp [hb] at hx
        | some blk =>
          cases blk with
          | row sz rows ro => simp [hb] at hx
          | map es ro =>
            cases ro with
            | true => simp [hb] at hx
            | false =>
              simp only [hb] at hx
              obtain ⟨l2, g2, hB⟩ := h.blk b _ hb
              rw [hl] at g2
              simp only [Option.some.injEq] at g2
              subst g2
              obtain ⟨es', clk, hh, k2, k3⟩ := hB
              have hlt : l.blk < w.heap.size := (Array.getElem?_eq_some_iff.1 hh).1
              cases hf : findM ks agg es k with
              | none => simp [hf] at hx
              | some o =>
                simp only [hf, Option.bind_some] at hx
                have hes : EsRel φ es es'.toList := ⟨by simpa using k2, fun i kk v hi => by simpa using k3 i kk v hi⟩
                obtain ⟨q, h1, h2⟩ := findKey_sound (φ := φ) w hk ha hpk hes hf
                have hobj : (getObj l.blk).run P w = .ok (.map es' clk) w := by simp [getObj, Sem.run, hh]
                have hset : ∀ o, (setObj l.blk o).run P w = .ok () { w with heap := w.heap.setIfInBounds l.blk o } := by intro o; simp [setObj, Sem.run, hh]
                have hstep : ∀ es2 es2' clk2, es2.length = es2'.size → (∀ (i : Nat) k v, es2[i]? = some (k, v) → plainV k = true ∧ ∃ e : MapEntry, es2'[i]? = some e ∧ e.key = k ∧ VRel φ v e.val) →
                    Step φ s w φ (s.put b (.map es2 false)) { w with heap := w.heap.setIfInBounds l.blk (.map es2' clk2) } := by
                  intro es2 es2' clk2 e1 e2
                  refine put_step h hb rfl hl ⟨es2', clk2, by simp [hlt], e1, e2⟩ (fun c hc => ?_) (by simp) rfl rfl rfl
                  simp [Array.getElem?_setIfInBounds, Ne.symm hc]
                rcases h2 with ⟨rfl, rfl⟩ | ⟨i, e', rfl, h3, rfl⟩
                · simp only [Option.some.injEq] at hx
                  subst hx
                  refine ⟨_, ?_, hstep _ (es'.push { key := k, val := v', born := clk }) (clk + 1) (by simp [k2]) fun i kk vv hi => ?_⟩
                  · simp only [Instr.mapUpdate, Sem.run_bind, run_underlying ht, Result.andThen_ok, hobj, hck, h1, hset]
                  · by_cases hi2 : i < es.length
                    · rw [List.getElem?_append_left hi2] at hi
                      obtain ⟨p1, e1, p2, p3, p4⟩ := k3 i kk vv hi
                      refine ⟨p1, e1, ?_, p3, p4⟩
                      rw [Array.getElem?_push, if_neg (by omega)]
                      exact p2
                    · rw [List.getElem?_append_right (by omega)] at hi
                      have hi0 : i - es.length = 0 := by
                        rcases Nat.eq_zero_or_pos (i - es.length) with h | h
                        · exact h
                        · rw [List.getElem?_eq_none (by simp; omega)] at hi; simp at hi
                      rw [hi0] at hi
                      simp only [List.getElem?_cons_zero, Option.some.injEq, Prod.mk.injEq] at hi
                      obtain ⟨rfl, rfl⟩ := hi
                      exact ⟨hpk, _, by rw [Array.getElem?_push, if_pos (by omega)], rfl, hv⟩
                · simp only [Option.some.injEq] at hx
                  subst hx
                  obtain ⟨p, hp1, hp2⟩ := findM_some hf
                  obtain ⟨hpe, hbits⟩ := eqT_true_eq (n := 9999) hkk hp2
                  obtain ⟨_, e'', he'', hek, _⟩ := k3 i p.1 p.2 hp1
                  have hee : e' = e'' := by
                    rw [Array.getElem?_toList, he''] at h3
                    exact (Option.some.inj h3).symm
                  subst hee
                  have hkey : ((es'[i]?).map (·.key)).getD k = k := by rw [he'']; simp [hek, ← hpe]
                  have hst : (Instr.keyThatStays k k).run P w = .ok k w := by
                    have hb2 : Instr.sameBits 10000 k k = true := by rw [← hpe] at hbits; exact hbits
                    simp [Instr.keyThatStays, hb2]
                  refine ⟨_, ?_, hstep _ (es'.modify i fun e => { e with key := k, val := v' }) clk (by simp [k2]) fun j kk vv hi => ?_⟩
                  · simp only [Instr.mapUpdate, Sem.run_bind, run_underlying ht, Result.andThen_ok, hobj, hck, h1, hkey, hst, hset]
                  · rw [List.getElem?_set] at hi
                    by_cases hij : i = j
                    · subst hij
                      simp only [if_true] at hi
                      split at hi
                      · simp only [Option.some.injEq, Prod.mk.injEq] at hi
                        obtain ⟨rfl, rfl⟩ := hi
                        exact ⟨hpk, { e' with key := k, val := v' }, by rw [Array.getElem?_modify, if_pos rfl, he'']; rfl, rfl, hv⟩
                      · simp at hi
                    · rw [if_neg hij] at hi
                      obtain ⟨p1, e1, p2, p3, p4⟩ := k3 j kk vv hi
                      exact ⟨p1, e1, by rw [Array.getElem?_modify, if_neg hij]; exact p2, p3, p4⟩
    · simp at hx
  · simp at hx

end

end Go.Sim
