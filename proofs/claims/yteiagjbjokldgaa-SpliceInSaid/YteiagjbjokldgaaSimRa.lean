/-
  Maps.
  A frame of the evaluator against a frame of the model.
  An operation of the evaluator against the model's: the instructions by themselves.
  An operation of the evaluator against the model's.
  An operation of the evaluator against the model's: all of them.
  Calls; and the law of an operation.
  An operation carried out: the frame behind it.
  A reading gives the same behind what leaves its sources alone.
  A region that draws its order.
  New memory that is made ahead of its place in an order; readings read anew.
-/
import Derived.Test.YteiagjbjokldgaaSimI
import Derived.Carry
set_option linter.unusedSimpArgs false
namespace Go.Sim

section
variable {P : Program} (w : World)

/-- What `checkKey` does with a struct's fields. -/
def ckFields (em : Bool) (n : Nat) (cs : Array Value) : List Field → Sem Unit
  | [] => pure ()
  | f :: fs => do
    if f.name ≠ "_" then Instr.checkKey em n f.type (← part f.type cs f.offset)
    ckFields em n cs fs

theorem ck_struct (em : Bool) (n : Nat) (t : TypeId) (cs : Array Value) (fs : Array Field) (ht : P.underlying t = some (.struct fs)) :
    (Instr.checkKey em (n + 1) t (.agg cs)).run P w = (ckFields em n cs fs.toList).run P w := by
  simp only [Instr.checkKey, Sem.run_bind, run_underlying ht, Result.andThen_ok]
  rw [← Array.forIn_toList]
  generalize fs.toList = l
  clear ht
  induction l generalizing w with
  | nil => simp [ckFields]
  | cons f l ih =>
    simp only [List.forIn_cons, ckFields, Sem.run_bind]
    split
    · simp only [Sem.run_bind]
      generalize (part f.type cs f.offset).run P w = r1
      cases r1 with
      | ok a w1 =>
        simp only [Result.andThen_ok]
        generalize (Instr.checkKey em n f.type a).run P w1 = r2
        cases r2 with
        | ok b w2 => simp only [Result.andThen_ok, Sem.run_pure]; exact ih w2
        | halt x w2 => simp [Result.andThen]
      | halt x w1 => simp [Result.andThen]
    · simp only [Sem.run_pure, Result.andThen_ok]
      exact ih w

/-- The shape of a key of such kinds. -/
def shapeK (n : Nat) (agg : Bool) (k : Value) : Prop := match agg with
  | true => ∃ l, k = .agg ⟨l⟩ ∧ l.length = n ∧ oneCs l = true
  | false => oneC k = true

theorem ck_sound : ∀ (d : Nat) (t : TypeId) (ks : List Nat), kindsT P d t = some ks → ∀ (n : Nat), d ≤ n → ∀ (em : Bool) {agg : Bool} {k : Value}, aggT P t = some agg → shapeK ks.length agg k →
    (Instr.checkKey em n t k).run P w = .ok () w
  | 0, t, ks, hk, _, _, _, _, _, _, _ => by simp [kindsT] at hk
  | d + 1, t, ks, hk, n, hn, em, agg, k, ha, hs => by
    obtain ⟨n, rfl⟩ : ∃ m, n = m + 1 := ⟨n - 1, by omega⟩
    unfold kindsT at hk
    unfold aggT at ha
    split at hk <;> rename_i hu
    case h_8 =>
      rename_i fs
      rw [hu] at ha
      simp only [Option.some.injEq] at ha
      subst ha
      split at hk
      · simp at hk
      · obtain ⟨l, rfl, hl, h1⟩ := hs
        rw [ck_struct w em n t _ fs hu]
        have : ∀ (fs : List Field) (o : Nat) (ks : List Nat), kindsFs P (kindsT P d) fs o = some ks → o + ks.length ≤ l.length → (ckFields em n ⟨l⟩ fs).run P w = .ok () w := by
          intro fs
          induction fs with
          | nil => intro o ks hk _; simp [ckFields]
          | cons f fs ih =>
            intro o ks hk hle
            simp only [kindsFs] at hk
            split at hk
            · rename_i hof
              simp only [Bool.and_eq_true, beq_iff_eq, bne_iff_ne, ne_eq] at hof
              obtain ⟨rfl, hnm⟩ := hof
              split at hk
              · rename_i fk m hfk hm
                split at hk
                · rename_i hlen
                  split at hk
                  · rename_i qs hqs
                    simp only [Option.some.injEq] at hk
                    subst hk
                    simp only [List.length_append] at hle
                    have hrest := ih (f.offset + m) qs hqs (by omega)
                    rcases kindsT_agg d f.type fk hfk with hagg | ⟨hagg, kk, rfl⟩
                    · have hck := ck_sound d f.type fk hfk n (by omega) em (agg := true) (k := .agg ⟨(l.drop f.offset).take m⟩) hagg ⟨_, rfl, by simp; omega, oneCs_take _ (oneCs_drop _ h1)⟩
                      simp only [ckFields, if_pos hnm, Sem.run_bind, run_part_agg w hagg hm, Result.andThen_ok, hck, hrest]
                    · simp only [List.length_singleton] at hlen hle
                      have hlt : f.offset < l.length := by omega
                      have hv : l[f.offset]? = some l[f.offset] := List.getElem?_eq_getElem hlt
                      have hck := ck_sound d f.type [kk] hfk n (by omega) em (agg := false) (k := l[f.offset]) hagg (oneCs_get h1 hv)
                      simp only [ckFields, if_pos hnm, Sem.run_bind, run_part_one w hagg hv, Result.andThen_ok, hck, hrest]
                  · simp at hk
                · simp at hk
              · simp at hk
            · simp at hk
        exact this fs.toList 0 ks hk (by omega)
    all_goals first
      | (simp at hk; done)
      | (rw [hu] at ha
         simp only [Option.some.injEq] at ha
         subst ha
         have hs : oneC k = true := hs
         cases k <;> simp [oneC] at hs <;> simp [Instr.checkKey, run_underlying hu])

theorem keyS_shape {n : Nat} {agg : Bool} {k : Value} (h : keyS n agg k = true) : plainV k = true ∧ shapeK n agg k := by
  simp only [keyS, Bool.and_eq_true] at h
  refine ⟨h.1, ?_⟩
  cases agg with
  | false => exact h.2
  | true =>
    have h2 := h.2
    cases k <;> simp at h2
    rename_i a
    obtain ⟨l⟩ := a
    have hp := h.1
    simp only [plainV, Bool.and_eq_true] at hp
    exact ⟨l, rfl, h2, hp.2⟩

/-! ### Finding a key -/

/-- The model's entries against ours. -/
def EsRel (φ : Phi) (es : List (Value × Value)) (es' : List MapEntry) : Prop :=
  es.length = es'.length ∧ ∀ (i : Nat) k v, es[i]? = some (k, v) → plainV k = true ∧ ∃ e : MapEntry, es'[i]? = some e ∧ e.key = k ∧ VRel φ v e.val

theorem EsRel.tail {φ : Phi} {p : Value × Value} {es : List (Value × Value)} {e : MapEntry} {es' : List MapEntry} (h : EsRel φ (p :: es) (e :: es')) : plainV p.1 = true ∧ e.key = p.1 ∧ VRel φ p.2 e.val ∧ EsRel φ es es' := by
  obtain ⟨h1, h2⟩ := h
  obtain ⟨hp, e', he, hk, hv⟩ := h2 0 p.1 p.2 rfl
  simp only [List.getElem?_cons_zero, Option.some.injEq] at he
  subst he
  exact ⟨hp, hk, hv, by simpa using h1, fun i k v hi => by simpa using h2 (i + 1) k v (by simpa using hi)⟩

theorem sameNow_eqT {t : TypeId} {dsc : TypeDesc} {ks : List Nat} {agg b b' : Bool} {x y : Value} (hu : P.underlying t = some dsc) (hk : kindsT P 9 t = some ks) (ha : aggT P t = some agg)
    (h : Instr.sameNow dsc x y = some b') (he : eqT ks agg x y = some b) : b' = b := by
  unfold Instr.sameNow at h
  unfold kindsT at hk
  unfold aggT at ha
  rw [hu] at hk ha
  split at h
  · simp only [Option.some.injEq] at hk ha
    subst hk; subst ha
    split at h
    · rename_i hkk; subst hkk
      simp only [Option.some.injEq] at h
      simp [eqT, eqk] at he
      rw [← h, ← he]
    · simp at h
  · simp only [Option.some.injEq] at hk ha h
    subst hk; subst ha
    simp [eqT, eqk] at he
    rw [← h, ← he, beq_bytes]
  · simp only [Option.some.injEq] at hk ha h
    subst hk; subst ha
    simp [eqT, eqk] at he
    rw [← h, ← he]
  · simp at h

theorem findNow_sound {φ : Phi} {t : TypeId} {dsc : TypeDesc} {ks : List Nat} {agg : Bool} {k : Value} (hu : P.underlying t = some dsc) (hk : kindsT P 9 t = some ks) (ha : aggT P t = some agg) :
    ∀ (es : List (Value × Value)) (es' : List MapEntry) (i0 : Nat) (o : Option Nat), EsRel φ es es' → findM ks agg es k = some o →
      Instr.findNow dsc k es' i0 = none ∨ ∃ r, Instr.findNow dsc k es' i0 = some r ∧ ((o = none ∧ r = none) ∨ ∃ i e, o = some i ∧ es'[i]? = some e ∧ r = some (i0 + i, e.val))
  | [], [], i0, o, _, hf => by
    simp only [findM, Option.some.injEq] at hf
    subst hf
    exact .inr ⟨none, rfl, .inl ⟨rfl, rfl⟩⟩
  | p :: es, e :: es', i0, o, hr, hf => by
    obtain ⟨h1, h2, h3, h4⟩ := hr.tail
    simp only [findM] at hf
    cases he : eqT ks agg k p.1 with
    | none => simp [he] at hf
    | some b =>
      simp only [he, Option.bind_some] at hf
      unfold Instr.findNow
      cases hs : Instr.sameNow dsc k e.key with
      | none => exact .inl rfl
      | some b' =>
        have := sameNow_eqT hu hk ha hs (h2 ▸ he)
        subst this
        cases b' with
        | true =>
          simp only [if_true, Option.some.injEq] at hf
          subst hf
          exact .inr ⟨_, rfl, .inr ⟨0, e, rfl, rfl, rfl⟩⟩
        | false =>
          simp only [Bool.false_eq_true, if_false, Option.map_eq_some_iff] at hf
          obtain ⟨o', ho, rfl⟩ := hf
          rcases findNow_sound hu hk ha es es' (i0 + 1) o' h4 ho with h | ⟨r, h5, h6⟩
          · exact .inl h
          · refine .inr ⟨r, h5, ?_⟩
            rcases h6 with ⟨rfl, rfl⟩ | ⟨i, e', rfl, h7, rfl⟩
            · exact .inl ⟨rfl, rfl⟩
            · exact .inr ⟨i + 1, e', rfl, by simpa using h7, by congr 2; omega⟩
  | [], _ :: _, _, _, hr, _ => by have := hr.1; simp at this
  | _ :: _, [], _, _, hr, _ => by have := hr.1; simp at this

theorem findAsking_sound {φ : Phi} {t : TypeId} {ks : List Nat} {agg : Bool} {k : Value} (hk : kindsT P 9 t = some ks) (ha : aggT P t = some agg) (hpk : plainV k = true) :
    ∀ (es : List (Value × Value)) (es' : List MapEntry) (i0 : Nat) (o : Option Nat), EsRel φ es es' → findM ks agg es k = some o →
      ∃ r, (Instr.findAsking t k es' i0).run P w = .ok r w ∧ ((o = none ∧ r = none) ∨ ∃ i e, o = some i ∧ es'[i]? = some e ∧ r = some (i0 + i, e.val))
  | [], [], i0, o, _, hf => by
    simp only [findM, Option.some.injEq] at hf
    subst hf
    exact ⟨none, by simp [Instr.findAsking], .inl ⟨rfl, rfl⟩⟩
  | p :: es, e :: es', i0, o, hr, hf => by
    obtain ⟨h1, h2, h3, h4⟩ := hr.tail
    simp only [findM] at hf
    cases he : eqT ks agg k p.1 with
    | none => simp [he] at hf
    | some b =>
      simp only [he, Option.bind_some] at hf
      have heq : (Op.equal t k e.key).run P w = .ok b w := by
        rw [h2]
        exact eqT_sound w 9 t ks hk 10000 (by omega) ha (VRel.of_plain φ hpk) (VRel.of_plain φ h1) he
      cases b with
      | true =>
        simp only [if_true, Option.some.injEq] at hf
        subst hf
        exact ⟨some (i0, e.val), by simp [Instr.findAsking, heq], .inr ⟨0, e, rfl, rfl, rfl⟩⟩
      | false =>
        simp only [Bool.false_eq_true, if_false, Option.map_eq_some_iff] at hf
        obtain ⟨o', ho, rfl⟩ := hf
        obtain ⟨r, h5, h6⟩ := findAsking_sound hk ha hpk es es' (i0 + 1) o' h4 ho
        refine ⟨r, by simp [Instr.findAsking, heq, h5], ?_⟩
        rcases h6 with ⟨rfl, rfl⟩ | ⟨i, e', rfl, h7, rfl⟩
        · exact .inl ⟨rfl, rfl⟩
        · exact .inr ⟨i + 1, e', rfl, by simpa using h7, by congr 2; omega⟩
  | [], _ :: _, _, _, hr, _ => by have := hr.1; simp at this
  | _ :: _, [], _, _, hr, _ => by have := hr.1; simp at this

theorem findKey_sound {φ : Phi} {t : TypeId} {ks : List Nat} {agg : Bool} {k : Value} (hk : kindsT P 9 t = some ks) (ha : aggT P t = some agg) (hpk : plainV k = true)
    {es : List (Value × Value)} {es' : List MapEntry} {o : Option Nat} (hr : EsRel φ es es') (hf : findM ks agg es k = some o) :
    ∃ r, (Instr.findKey t k es').run P w = .ok r w ∧ ((o = none ∧ r = none) ∨ ∃ i e, o = some i ∧ es'[i]? = some e ∧ r = some (i, e.val)) := by
  have hu : ∃ dsc, P.underlying t = some dsc := by
    unfold aggT at ha
    cases h : P.underlying t with
    | none => simp [h] at ha
    | some d => exact ⟨d, rfl⟩
  obtain ⟨dsc, hu⟩ := hu
  have hnow := findNow_sound (φ := φ) hu hk ha es es' 0 o hr hf
  rcases hnow with h | ⟨r, h1, h2⟩
  · obtain ⟨r, h1, h2⟩ := findAsking_sound w hk ha hpk es es' 0 o hr hf
    exact ⟨r, by simp [Instr.findKey, run_underlying hu, h, h1], by simpa using h2⟩
  · exact ⟨r, by simp [Instr.findKey, run_underlying hu, h1], by simpa using h2⟩

theorem findM_some {ks : List Nat} {agg : Bool} {k : Value} : ∀ {es : List (Value × Value)} {i : Nat}, findM ks agg es k = some (some i) → ∃ e, es[i]? = some e ∧ eqT ks agg k e.1 = some true
  | [], i, h => by simp [findM] at h
  | p :: es, i, h => by
    simp only [findM] at h
    cases he : eqT ks agg k p.1 with
    | none => simp [he] at h
    | some b =>
      simp only [he, Option.bind_some] at h
      cases b with
      | true =>
        simp only [if_true, Option.some.injEq] at h
        subst h
        exact ⟨p, rfl, he⟩
      | false =>
        simp only [Bool.false_eq_true, if_false, Option.map_eq_some_iff] at h
        obtain ⟨o', ho, hi⟩ := h
        cases o' with
        | none => simp at hi
        | some j =>
          have hi : j + 1 = i := by simpa using hi
          subst hi
          obtain ⟨e, h1, h2⟩ := findM_some ho
          exact ⟨e, by simpa using h1, h2⟩

theorem eqk_true {k n : Nat} {x y : Value} (hk : k ≤ 2) (h : eqk k x y = some true) : x = y ∧ Instr.sameBits n x y = true := by
  unfold eqk at h
  split at h <;> first | omega | skip
  · simp at h; subst h; cases n <;> simp [Instr.sameBits]
  · split at h
    · rename_i hkk; subst hkk; simp at h; subst h; cases n <;> simp [Instr.sameBits]
    · simp at h
  · simp at h; subst h
    refine ⟨rfl, ?_⟩
    cases n <;> simp [Instr.sameBits, beq_bytes]
  · simp at h

theorem eqks_true {n : Nat} : ∀ {ks : List Nat} {xs ys : List Value}, keyKinds ks = true → eqks ks xs ys = some true → xs = ys ∧ ((xs.zip ys).all fun p => Instr.sameBits n p.1 p.2) = true
  | [], [], [], _, _ => ⟨rfl, rfl⟩
  | k :: ks, x :: xs, y :: ys, hk, h => by
    simp only [keyKinds, Bool.and_eq_true, decide_eq_true_eq] at hk
    simp only [eqks] at h
    cases h1 : eqk k x y with
    | none => simp [h1] at h
    | some p =>
      cases h2 : eqks ks xs ys with
      | none => simp [h1, h2] at h
      | some q =>
        simp only [h1, h2, Option.bind_some, Option.some.injEq, Bool.and_eq_true] at h
        obtain ⟨rfl, rfl⟩ := h
        obtain ⟨rfl, e1⟩ := eqk_true (n := n) hk.1 h1
        obtain ⟨rfl, e2⟩ := eqks_true (n := n) hk.2 h2
        exact ⟨rfl, by simp only [List.zip_cons_cons, List.all_cons, e1, Bool.true_and]; exact e2⟩
  | [], _ :: _, _, _, h => by simp [eqks] at h
  | [], [], _ :: _, _, h => by simp [eqks] at h
  | _ :: _, [], _, _, h => by simp [eqks] at h
  | _ :: _, _ :: _, [], _, h => by simp [eqks] at h

theorem eqT_true_eq {n : Nat} {ks : List Nat} {agg : Bool} {x y : Value} (hk : keyKinds ks = true) (h : eqT ks agg x y = some true) : x = y ∧ Instr.sameBits (n + 1) x y = true := by
  cases agg with
  | false =>
    obtain ⟨k, rfl, h⟩ := eqT_false h
    simp only [keyKinds, Bool.and_true, decide_eq_true_eq] at hk
    exact eqk_true hk h
  | true =>
    obtain ⟨xs, ys, rfl, rfl, h⟩ := eqT_true h
    obtain ⟨rfl, e⟩ := eqks_true (n := n) hk h
    refine ⟨rfl, ?_⟩
    simp only [Instr.sameBits, beq_self_eq_true, Bool.true_and]
    exact e

theorem mkm_sound {φ : Phi} {s s' : St} {r : Value} (t : TypeId) (h : Rel φ s w) (hx : mkm s = some (r, s')) :
    ∃ φ', (Instr.makeMap t none).run P w = .ok (.map (some w.heap.size)) (w.alloc (.map #[] 0)) ∧ VRel φ' r (.map (some w.heap.size)) ∧ Step φ s w φ' s' (w.alloc (.map #[] 0)) := by
  simp only [mkm, Option.some.injEq, Prod.mk.injEq] at hx
  obtain ⟨rfl, rfl⟩ := hx
  let l : Loc := ⟨w.heap.size, 0, 0, 0⟩
  refine ⟨φ.add s.n l, by simp [Instr.makeMap], ?_, new_step (l := l) h (Nat.le_refl _) ?_ (fun c hc => heap_alloc_old w _ c hc) (by simp) rfl rfl rfl (fun a _ => Go.RowKit.frozen?_alloc_map w _ _ a)⟩
  · exact VRel.map (l := l) (Phi.add_self φ s.n l)
  · exact ⟨#[], 0, heap_alloc_new w _, rfl, fun i k v hi => by simp at hi⟩

theorem lkp_sound {φ : Phi} {s : St} {t kt e : TypeId} {ks : List Nat} {agg ok : Bool} {z m m' k k' r : Value} (h : Rel φ s w) (ht : P.underlying t = some (.map kt e)) (hk : kindsT P 9 kt = some ks) (ha : aggT P kt = some agg) (hz : zeroT P e = some z) (hpz : plainV z = true)
    (hm : VRel φ m m') (hkr : VRel φ k k') (hx : lkp s ks agg z ok m k = some r) : ∃ r', (Instr.lookup t m' k' ok).run P w = .ok r' w ∧ VRel φ r r' := by
  unfold lkp at hx
  split at hx
  · rename_i hks
    obtain ⟨hpk, hsh⟩ := keyS_shape hks
    have hkk' := (hkr.plain_eq hpk).symm
    subst hkk'
    have hck : ∀ em, (Instr.checkKey em 10000 kt k).run P w = .ok () w := fun em => ck_sound w 9 kt ks hk 10000 (by omega) em ha hsh
    have hzero : ∀ v, v = (if ok then Value.tuple ⟨[z, .bool false]⟩ else z) → VRel φ v (if ok then .tuple #[z, .bool false] else z) := by
      intro v hv
      subst hv
      cases ok
      · exact VRel.of_plain φ hpz
      · exact .tuple (.cons (VRel.of_plain φ hpz) (.cons (.bool _) .nil))
    split at hx
    · cases hm
      simp only [Option.some.injEq] at hx
      refine ⟨_, ?_, hzero r hx.symm⟩
      have hfk : (Instr.findKey kt k []).run P w = .ok none w := by
        obtain ⟨q, h1, h2⟩ := findKey_sound (φ := φ) w hk ha hpk (es := []) (es' := []) (o := none) ⟨rfl, by simp⟩ rfl
        rcases h2 with ⟨_, rfl⟩ | ⟨i, e', h3, _⟩
        · exact h1
        · simp at h3
      simp only [Instr.lookup, Sem.run_bind, run_underlying ht, Result.andThen_ok, Sem.run_pure, hck, hfk, run_zeroValue w hz]
    · rename_i b
      cases hm with
      | @map _ l hl =>
        cases hb : s.get b with
        | none => simp [hb] at hx
        | some blk =>
          cases blk with
          | row sz rows ro => simp [hb] at hx
          | map es ro =>
            simp only [hb] at hx
            obtain ⟨l2, g2, hB⟩ := h.blk b _ hb
            rw [hl] at g2
            simp only [Option.some.injEq] at g2
            subst g2
            obtain ⟨es', clk, hh, k2, k3⟩ := hB
            cases hf : findM ks agg es k with
            | none => simp [hf] at hx
            | some o =>
              simp only [hf, Option.bind_some] at hx
              have hes : EsRel φ es es'.toList := ⟨by simpa using k2, fun i kk v hi => by simpa using k3 i kk v hi⟩
              obtain ⟨q, h1, h2⟩ := findKey_sound (φ := φ) w hk ha hpk hes hf
              have hobj : (getObj l.blk).run P w = .ok (.map es' clk) w := by simp [getObj, Sem.run, hh]
              rcases h2 with ⟨rfl, rfl⟩ | ⟨i, e', rfl, h3, rfl⟩
              · simp only [Option.some.injEq] at hx
                refine ⟨_, ?_, hzero r hx.symm⟩
                simp only [Instr.lookup, Sem.run_bind, run_underlying ht, Result.andThen_ok, Sem.run_pure, hobj, hck, h1, run_zeroValue w hz]
              · simp only at hx
                cases hei : es[i]? with
                | none => simp [hei] at hx
                | some p =>
                  simp only [hei, Option.map_some, Option.some.injEq] at hx
                  obtain ⟨_, e'', he'', _, hv⟩ := k3 i p.1 p.2 hei
                  have : e' = e'' := by
                    rw [Array.getElem?_toList, he''] at h3
                    exact (Option.some.inj h3).symm
                  subst this
                  refine ⟨if ok then .tuple #[e'.val, .bool true] else e'.val, ?_, ?_⟩
                  · simp only [Instr.lookup, Sem.run_bind, run_underlying ht, Result.andThen_ok, Sem.run_pure, hobj, hck, h1]
                  · subst hx
                    cases ok
                    · exact hv
                    · exact .tuple (.cons hv (.cons (.bool _) .nil))
    · simp at hx
  · simp at hx

theorem upm_sound {φ : Phi} {s s' : St} {t kt e : TypeId} {ks : List Nat} {agg : Bool} {m m' k k' v v' : Value} (h : Rel φ s w) (ht : P.underlying t = some (.map kt e)) (hk : kindsT P 9 kt = some ks) (ha : aggT P kt = some agg) (hkk : keyKinds ks = true)
    (hm : VRel φ m m') (hkr : VRel φ k k') (hv : VRel φ v v') (hx : upm s ks agg m k v = some s') : ∃ w', (Instr.mapUpdate t m' k' v').run P w = .ok () w' ∧ Step φ s w φ s' w' := by
  unfold upm at hx
  split at hx
  · rename_i hks
    obtain ⟨hpk, hsh⟩ := keyS_shape hks
    have hkk' := (hkr.plain_eq hpk).symm
    subst hkk'
    have hck : ∀ em, (Instr.checkKey em 10000 kt k).run P w = .ok () w := fun em => ck_sound w 9 kt ks hk 10000 (by omega) em ha hsh
    split at hx
    · rename_i b
      cases hm with
      | @map _ l hl =>
        cases hb : s.get b with
        | none => simp [hb] at hx
        | some blk =>
          cases blk with
          | row sz rows ro => simp [hb] at hx
          | map es ro =>
            cases ro with
            | true => simp [hb] at hx
            | false =>
              simp only [hb] at hx
              obtain ⟨l2, g2, hB⟩ := h.blk b _ hb
              rw [hl] at g2
              simp only [Option.some.injEq] at g2
              subst g2
              obtain ⟨es', clk, hh, k2, k3⟩ := hB
              have hlt : l.blk < w.heap.size := (Array.getElem?_eq_some_iff.1 hh).1
              cases hf : findM ks agg es k with
              | none => simp [hf] at hx
              | some o =>
                simp only [hf, Option.bind_some] at hx
                have hes : EsRel φ es es'.toList := ⟨by simpa using k2, fun i kk v hi => by simpa using k3 i kk v hi⟩
                obtain ⟨q, h1, h2⟩ := findKey_sound (φ := φ) w hk ha hpk hes hf
                have hobj : (getObj l.blk).run P w = .ok (.map es' clk) w := by simp [getObj, Sem.run, hh]
                have hset : ∀ o, (setObj l.blk o).run P w = .ok () { w with heap := w.heap.setIfInBounds l.blk o } := by intro o; simp [setObj, Sem.run, hh]
                have hstep : ∀ es2 es2' clk2, es2.length = es2'.size → (∀ (i : Nat) k v, es2[i]? = some (k, v) → plainV k = true ∧ ∃ e : MapEntry, es2'[i]? = some e ∧ e.key = k ∧ VRel φ v e.val) →
                    Step φ s w φ (s.put b (.map es2 false)) { w with heap := w.heap.setIfInBounds l.blk (.map es2' clk2) } := by
                  intro es2 es2' clk2 e1 e2
                  refine put_step h hb rfl hl ⟨es2', clk2, by simp [hlt], e1, e2⟩ (fun c hc => ?_) (by simp) rfl rfl rfl
                  simp [Array.getElem?_setIfInBounds, Ne.symm hc]
                rcases h2 with ⟨rfl, rfl⟩ | ⟨i, e', rfl, h3, rfl⟩
                · simp only [Option.some.injEq] at hx
                  subst hx
                  refine ⟨_, ?_, hstep _ (es'.push { key := k, val := v', born := clk }) (clk + 1) (by simp [k2]) fun i kk vv hi => ?_⟩
                  · simp only [Instr.mapUpdate, Sem.run_bind, run_underlying ht, Result.andThen_ok, hobj, hck, h1, hset]
                  · by_cases hi2 : i < es.length
                    · rw [List.getElem?_append_left hi2] at hi
                      obtain ⟨p1, e1, p2, p3, p4⟩ := k3 i kk vv hi
                      refine ⟨p1, e1, ?_, p3, p4⟩
                      rw [Array.getElem?_push, if_neg (by omega)]
                      exact p2
                    · rw [List.getElem?_append_right (by omega)] at hi
                      have hi0 : i - es.length = 0 := by
                        rcases Nat.eq_zero_or_pos (i - es.length) with h | h
                        · exact h
                        · rw [List.getElem?_eq_none (by simp; omega)] at hi; simp at hi
                      rw [hi0] at hi
                      simp only [List.getElem?_cons_zero, Option.some.injEq, Prod.mk.injEq] at hi
                      obtain ⟨rfl, rfl⟩ := hi
                      exact ⟨hpk, _, by rw [Array.getElem?_push, if_pos (by omega)], rfl, hv⟩
                · simp only [Option.some.injEq] at hx
                  subst hx
                  obtain ⟨p, hp1, hp2⟩ := findM_some hf
                  obtain ⟨hpe, hbits⟩ := eqT_true_eq (n := 9999) hkk hp2
                  obtain ⟨_, e'', he'', hek, _⟩ := k3 i p.1 p.2 hp1
                  have hee : e' = e'' := by
                    rw [Array.getElem?_toList, he''] at h3
                    exact (Option.some.inj h3).symm
                  subst hee
                  have hkey : ((es'[i]?).map (·.key)).getD k = k := by rw [he'']; simp [hek, ← hpe]
                  have hst : (Instr.keyThatStays k k).run P w = .ok k w := by
                    have hb2 : Instr.sameBits 10000 k k = true := by rw [← hpe] at hbits; exact hbits
                    simp [Instr.keyThatStays, hb2]
                  refine ⟨_, ?_, hstep _ (es'.modify i fun e => { e with key := k, val := v' }) clk (by simp [k2]) fun j kk vv hi => ?_⟩
                  · simp only [Instr.mapUpdate, Sem.run_bind, run_underlying ht, Result.andThen_ok, hobj, hck, h1, hkey, hst, hset]
                  · rw [List.getElem?_set] at hi
                    by_cases hij : i = j
                    · subst hij
                      simp only [if_true] at hi
                      split at hi
                      · simp only [Option.some.injEq, Prod.mk.injEq] at hi
                        obtain ⟨rfl, rfl⟩ := hi
                        exact ⟨hpk, { e' with key := k, val := v' }, by rw [Array.getElem?_modify, if_pos rfl, he'']; rfl, rfl, hv⟩
                      · simp at hi
                    · rw [if_neg hij] at hi
                      obtain ⟨p1, e1, p2, p3, p4⟩ := k3 j kk vv hi
                      exact ⟨p1, e1, by rw [Array.getElem?_modify, if_neg hij]; exact p2, p3, p4⟩
    · simp at hx
  · simp at hx

end

end Go.Sim
set_option linter.unusedSimpArgs false
namespace Go.Sim
open Go.RowKit (Below)

def EntRel (φ : Phi) (ψ : Nat → Option Nat) : Ent → Value → Prop
  | .val v, u => VRel φ v u
  | .lp t j, u => ∃ c, ψ t = some c ∧ u = .pointer (some ⟨c, j, none⟩)

def LAt (φ : Phi) (cs : List Value) (c : Nat) (w : World) : Prop :=
  oneCs cs = true ∧ ∃ cs' e, w.heap[c]? = some (.cells cs' e (0, 0)) ∧ VsRel φ cs cs'.toList

/-- A frame's temporaries, whatever the world. -/
structure EnvRel (φ : Phi) (ψ : Nat → Option Nat) (fr : Fr) (a : Act) : Prop where
  env : ∀ t x, lookE fr.e t = some x → t < a.tmps.size ∧ EntRel φ ψ x (a.tmps.getD t undef)
  grd : ∀ t t' j gt b, lookG fr.g t = some (t', j, gt, b) → t < a.tmps.size ∧ (a.tmps[gt]? = some (.bool b) → ∃ c, ψ t' = some c ∧ a.tmps.getD t undef = .pointer (some ⟨c, j, none⟩))

def LocRel (φ : Phi) (ψ : Nat → Option Nat) (fr : Fr) (w : World) : Prop := ∀ t cs, lookL fr.l t = some cs → ∃ c, ψ t = some c ∧ LAt φ cs c w

structure FrRel (φ : Phi) (ψ : Nat → Option Nat) (fr : Fr) (a : Act) (w : World) : Prop extends EnvRel φ ψ fr a where
  loc : LocRel φ ψ fr w

/-- The call's own variables lie apart. -/
structure Apart (B : Nat) (φ : Phi) (ψ : Nat → Option Nat) (s : St) (fr : Fr) : Prop where
  new : ∀ t cs c, lookL fr.l t = some cs → ψ t = some c → B ≤ c
  row : ∀ t cs c b k l, lookL fr.l t = some cs → ψ t = some c → s.get b = some k → φ b = some l → l.blk ≠ c
  one : ∀ t t' cs cs' c, t ≠ t' → lookL fr.l t = some cs → lookL fr.l t' = some cs' → ψ t = some c → ψ t' ≠ some c

structure Inv (pure : Bool) (N : Nat × List Deferred) (φ0 : Phi) (s0 : St) (w0 : World) (φ : Phi) (ψ : Nat → Option Nat) (s : St) (fr : Fr) (a : Act) (w : World) : Prop where
  step : Step φ0 s0 w0 φ s w
  frel : FrRel φ ψ fr a w
  apart : Apart w0.heap.size φ ψ s fr
  defers : a.defers = N.2
  size : a.tmps.size = N.1
  pure : pure = true → s = s0 ∧ φ = φ0 ∧ Below w0.heap.size w0 w

theorem LAt.lt {φ : Phi} {cs : List Value} {c : Nat} {w : World} (h : LAt φ cs c w) : c < w.heap.size := by
  obtain ⟨_, cs', e, hh, _⟩ := h
  exact (Array.getElem?_eq_some_iff.1 hh).1

theorem LAt.of_same {φ φ' : Phi} {cs : List Value} {c : Nat} {w w' : World} (hle : φ.le φ') (h : LAt φ cs c w) (hw : w'.heap[c]? = w.heap[c]?) : LAt φ' cs c w' := by
  obtain ⟨h1, cs', e, hh, hr⟩ := h
  exact ⟨h1, cs', e, hw.trans hh, hr.mono hle⟩

theorem EntRel.mono {φ φ' : Phi} {ψ : Nat → Option Nat} (hle : φ.le φ') {x : Ent} {u : Value} (h : EntRel φ ψ x u) : EntRel φ' ψ x u := by
  cases x with
  | val v => exact VRel.mono hle h
  | lp t j => exact h

/-! ### Temporaries -/

theorem getD_put_same {a : Act} {d : Nat} {u : Value} (h : d < a.tmps.size) : (a.put (some d) u).tmps.getD d undef = u := by
  simp [Act.put, Array.getD, h]

theorem getD_put_other {a : Act} {d t : Nat} {u : Value} (h : t ≠ d) : (a.put (some d) u).tmps.getD t undef = a.tmps.getD t undef := by
  simp [Act.put, Array.getD_eq_getD_getElem?, Array.getElem?_setIfInBounds, Ne.symm h]

theorem get_put_other {a : Act} {d t : Nat} {u : Value} (h : t ≠ d) : (a.put (some d) u).tmps[t]? = a.tmps[t]? := by
  simp [Act.put, Array.getElem?_setIfInBounds, Ne.symm h]

@[simp] theorem size_put {a : Act} {d : Option Nat} {u : Value} : (a.put d u).tmps.size = a.tmps.size := by
  cases d <;> simp [Act.put]

@[simp] theorem defers_put {a : Act} {d : Option Nat} {u : Value} : (a.put d u).defers = a.defers := by
  cases d <;> simp [Act.put]

theorem freeG_spec : ∀ {g : List (Nat × Nat × Nat × Nat × Bool)} {d : Nat}, freeG g d = true → (lookG g d = none) ∧ ∀ t t' j gt b, lookG g t = some (t', j, gt, b) → t ≠ d ∧ gt ≠ d
  | [], d, _ => ⟨rfl, fun t t' j gt b h => by simp [lookG] at h⟩
  | (i, t1, j1, gt1, b1) :: r, d, h => by
    simp only [freeG] at h
    split at h
    · simp at h
    · split at h
      · simp at h
      · rename_i h1 h2
        obtain ⟨g1, g2⟩ := freeG_spec h
        refine ⟨by simp [lookG, h1, g1], fun t t' j gt b hl => ?_⟩
        simp only [lookG] at hl
        split at hl
        · rename_i ht
          simp only [Option.some.injEq, Prod.mk.injEq] at hl
          obtain ⟨rfl, rfl, rfl, rfl⟩ := hl
          exact ⟨fun e => h1 (by omega), fun e => h2 e.symm⟩
        · exact g2 t t' j gt b hl

/-- The temporaries other than `d` stand in the frame as they did. -/
structure Keeps (fr fr' : Fr) (d : Option Nat) : Prop where
  e : ∀ t, d ≠ some t → lookE fr'.e t = lookE fr.e t
  g : ∀ t, d ≠ some t → lookG fr'.g t = lookG fr.g t

theorem Keeps.refl (fr : Fr) (d : Option Nat) : Keeps fr fr d := ⟨fun _ _ => rfl, fun _ _ => rfl⟩

theorem Keeps.trans {fr fr' fr'' : Fr} {d : Option Nat} (h : Keeps fr fr' d) (k : Keeps fr' fr'' d) : Keeps fr fr'' d :=
  ⟨fun t ht => (k.e t ht).trans (h.e t ht), fun t ht => (k.g t ht).trans (h.g t ht)⟩

/-- A temporary written. -/
theorem Inv.put {p : Bool} {N : Nat × List Deferred} {φ0 φ : Phi} {s0 s : St} {w0 w : World} {ψ : Nat → Option Nat} {fr : Fr} {a : Act} {d : Option Nat} {x : Ent} {u : Value} {R : Type} {K : Fr → Option R} {r : R}
    (h : Inv p N φ0 s0 w0 φ ψ s fr a w) (hx : EntRel φ ψ x u) (hk : putK N.1 fr d x K = some r) : ∃ fr', K fr' = some r ∧ (Keeps fr fr' d ∧ fr'.l = fr.l ∧ ∀ d', d = some d' → lookE fr'.e d' = some x ∧ lookG fr'.g d' = none) ∧ Inv p N φ0 s0 w0 φ ψ s fr' (a.put d u) w := by
  cases d with
  | none => exact ⟨fr, hk, ⟨.refl _ _, rfl, fun d' hd => by simp at hd⟩, h⟩
  | some d =>
    simp only [putK] at hk
    split at hk
    · rename_i hd
      obtain ⟨e, l, g⟩ := fr
      simp only at hk
      cases hg : freeG g d with
      | false => simp [hg] at hk
      | true =>
        rw [hg] at hk
        have hds : d < a.tmps.size := by rw [h.size]; exact hd
        obtain ⟨g1, g2⟩ := freeG_spec hg
        refine ⟨_, hk, ⟨⟨fun t ht => by simp only [lookE]; rw [if_neg (fun e => ht (by rw [e]))], fun t ht => rfl⟩, rfl, fun d' hd' => by simp only [Option.some.injEq] at hd'; subst hd'; exact ⟨by simp [lookE], g1⟩⟩, h.step, ⟨⟨fun t y hy => ?_, fun t t' j gt b hl => ?_⟩, h.frel.loc⟩, ⟨h.apart.new, h.apart.row, h.apart.one⟩, by simpa using h.defers, by simpa using h.size, h.pure⟩
        · simp only [lookE] at hy
          rw [size_put]
          split at hy
          · rename_i ht
            subst ht
            simp only [Option.some.injEq] at hy
            subst hy
            exact ⟨hds, by rw [getD_put_same hds]; exact hx⟩
          · rename_i ht
            obtain ⟨h1, h2⟩ := h.frel.env t y hy
            exact ⟨h1, by rw [getD_put_other ht]; exact h2⟩
        · obtain ⟨h1, h2⟩ := h.frel.grd t t' j gt b hl
          obtain ⟨h3, h4⟩ := g2 t t' j gt b hl
          rw [size_put, get_put_other h4, getD_put_other h3]
          exact ⟨h1, h2⟩
    · simp at hk

/-- An address under a guard written. -/
theorem Inv.putG {p : Bool} {N : Nat × List Deferred} {φ0 φ : Phi} {s0 s : St} {w0 w : World} {ψ : Nat → Option Nat} {fr : Fr} {a : Act} {d : Option Nat} {t j gt : Nat} {b : Bool} {u : Value} {R : Type} {K : Fr → Option R} {r : R}
    (h : Inv p N φ0 s0 w0 φ ψ s fr a w) (hx : a.tmps[gt]? = some (.bool b) → EntRel φ ψ (.lp t j) u) (hk : putGK N.1 fr d t j gt b K = some r) : ∃ fr', K fr' = some r ∧ (Keeps fr fr' d ∧ fr'.l = fr.l ∧ ∀ d', d = some d' → lookG fr'.g d' = some (t, j, gt, b) ∧ lookE fr'.e d' = none) ∧ Inv p N φ0 s0 w0 φ ψ s fr' (a.put d u) w := by
  cases d with
  | none => exact ⟨fr, hk, ⟨.refl _ _, rfl, fun d' hd => by simp at hd⟩, h⟩
  | some d =>
    simp only [putGK] at hk
    split at hk
    · rename_i hd
      obtain ⟨e, l, g⟩ := fr
      simp only at hk
      cases hg : freeG g d with
      | false => simp [hg] at hk
      | true =>
        cases he : lookE e d with
        | some _ => simp [hg, he] at hk
        | none =>
          rw [hg, he] at hk
          simp only at hk
          split at hk
          · simp at hk
          · rename_i hdg
            have hds : d < a.tmps.size := by rw [h.size]; exact hd
            obtain ⟨g1, g2⟩ := freeG_spec hg
            refine ⟨_, hk, ⟨⟨fun t ht => rfl, fun t1 ht => by simp only [lookG]; rw [if_neg (fun e => ht (by rw [e]))]⟩, rfl, fun d' hd' => by simp only [Option.some.injEq] at hd'; subst hd'; exact ⟨by simp [lookG], he⟩⟩, h.step, ⟨⟨fun t y hy => ?_, fun t1 t' j1 gt1 b1 hl => ?_⟩, h.frel.loc⟩, ⟨h.apart.new, h.apart.row, h.apart.one⟩, by simpa using h.defers, by simpa using h.size, h.pure⟩
            · have ht : t ≠ d := fun e1 => by subst e1; simp only at hy; rw [he] at hy; simp at hy
              obtain ⟨h1, h2⟩ := h.frel.env t y hy
              rw [size_put, getD_put_other ht]
              exact ⟨h1, h2⟩
            · simp only [lookG] at hl
              split at hl
              · rename_i ht
                subst ht
                simp only [Option.some.injEq, Prod.mk.injEq] at hl
                obtain ⟨rfl, rfl, rfl, rfl⟩ := hl
                rw [size_put, get_put_other (Ne.symm hdg), getD_put_same hds]
                exact ⟨hds, hx⟩
              · obtain ⟨h1, h2⟩ := h.frel.grd t1 t' j1 gt1 b1 hl
                obtain ⟨h3, h4⟩ := g2 t1 t' j1 gt1 b1 hl
                rw [size_put, get_put_other h4, getD_put_other h3]
                exact ⟨h1, h2⟩
    · simp at hk

/-! ### The world goes on -/

theorem Inv.world {p : Bool} {N : Nat × List Deferred} {φ0 φ φ' : Phi} {s0 s s' : St} {w0 w w' : World} {ψ : Nat → Option Nat} {fr : Fr} {a : Act}
    (h : Inv p N φ0 s0 w0 φ ψ s fr a w) (hs : Step φ s w φ' s' w') (hp : p = true → s' = s ∧ φ' = φ ∧ Below w0.heap.size w w') : Inv p N φ0 s0 w0 φ' ψ s' fr a w' := by
  have hsame : ∀ t cs c, lookL fr.l t = some cs → ψ t = some c → c < w.heap.size → w'.heap[c]? = w.heap[c]? := fun t cs c h1 h2 h3 =>
    hs.frm.old c h3 fun b k l g1 _ g3 => h.apart.row t cs c b k l h1 h2 g1 g3
  refine ⟨h.step.trans hs, ⟨⟨fun t x hx => ⟨(h.frel.env t x hx).1, (h.frel.env t x hx).2.mono hs.ext⟩, h.frel.grd⟩, fun t cs hl => ?_⟩, ⟨h.apart.new, fun t cs c b k l h1 h2 h3 h4 => ?_, h.apart.one⟩, h.defers, h.size, fun hpt => ?_⟩
  · obtain ⟨c, h1, h2⟩ := h.frel.loc t cs hl
    exact ⟨c, h1, h2.of_same hs.ext (hsame t cs c hl h1 h2.lt)⟩
  · obtain ⟨c', g1, g2⟩ := h.frel.loc t cs h1
    rw [h2] at g1
    simp only [Option.some.injEq] at g1
    subst g1
    have := g2.lt
    rcases hs.own b k l h3 h4 with h5 | ⟨b0, k0, l0, f1, _, f3, f4⟩
    · omega
    · rw [← f4]; exact h.apart.row t cs c b0 k0 l0 h1 h2 f1 f3
  · obtain ⟨e1, e2, e3⟩ := h.pure hpt
    obtain ⟨f1, f2, f3⟩ := hp hpt
    exact ⟨f1.trans e1, f2.trans e2, e3.trans f3⟩

theorem Inv.below {p : Bool} {N : Nat × List Deferred} {φ0 φ : Phi} {s0 s : St} {w0 w w' : World} {ψ : Nat → Option Nat} {fr : Fr} {a : Act}
    (h : Inv p N φ0 s0 w0 φ ψ s fr a w) (hb : Below w.heap.size w w') (hz : Froz w w') : Inv p N φ0 s0 w0 φ ψ s fr a w' :=
  h.world (Step.of_below h.step.rel hb hz) fun _ => ⟨rfl, rfl, hb.mono h.step.frm.size⟩

/-! ### The call's own variables -/

theorem freeE_spec : ∀ {e : List (Nat × Ent)} {t : Nat}, freeE e t = true → ∀ i t' j, lookE e i = some (.lp t' j) → t' ≠ t
  | [], t, _, i, t', j, h => by simp [lookE] at h
  | (i0, x) :: r, t, hf, i, t', j, h => by
    simp only [freeE] at hf
    simp only [lookE] at h
    cases x with
    | val v =>
      simp only at hf
      split at h
      · simp at h
      · exact freeE_spec hf i t' j h
    | lp t1 j1 =>
      simp only at hf
      split at hf
      · simp at hf
      · rename_i ht
        split at h
        · simp only [Option.some.injEq, Ent.lp.injEq] at h
          obtain ⟨rfl, rfl⟩ := h
          exact fun e => ht e.symm
        · exact freeE_spec hf i t' j h

theorem freeGL_spec : ∀ {g : List (Nat × Nat × Nat × Nat × Bool)} {t : Nat}, freeGL g t = true → ∀ i t' j gt b, lookG g i = some (t', j, gt, b) → t' ≠ t
  | [], t, _, i, t', j, gt, b, h => by simp [lookG] at h
  | (i0, t1, j1, gt1, b1) :: r, t, hf, i, t', j, gt, b, h => by
    simp only [freeGL] at hf
    simp only [lookG] at h
    split at hf
    · simp at hf
    · rename_i ht
      split at h
      · simp only [Option.some.injEq, Prod.mk.injEq] at h
        obtain ⟨rfl, _⟩ := h
        exact fun e => ht e.symm
      · exact freeGL_spec hf i t' j gt b h

/-- The call's own variables that a frame's addresses name stand as they did. -/
def LocSame (fr fr' : Fr) : Prop := ∀ t', ((∃ i j, lookE fr.e i = some (.lp t' j)) ∨ ∃ i j gt b, lookG fr.g i = some (t', j, gt, b)) → lookL fr'.l t' = lookL fr.l t'

theorem LocSame.of_eq {fr fr' : Fr} (h : fr'.l = fr.l) : LocSame fr fr' := fun t' _ => by rw [h]

/-- A block that no row and no variable of the call's own stands in. -/
structure Away (φ : Phi) (ψ : Nat → Option Nat) (s : St) (fr : Fr) (c : Nat) : Prop where
  row : ∀ b k l, s.get b = some k → φ b = some l → l.blk ≠ c
  loc : ∀ t cs, lookL fr.l t = some cs → ψ t ≠ some c

/-- One of them. -/
def LocAt (t' : Nat) (fr fr' : Fr) : Prop := ((∃ i j, lookE fr.e i = some (.lp t' j)) ∨ ∃ i j gt b, lookG fr.g i = some (t', j, gt, b)) → lookL fr'.l t' = lookL fr.l t'

theorem LocSame.at {fr fr' : Fr} (h : LocSame fr fr') (t : Nat) : LocAt t fr fr' := h t

def putPsi (ψ : Nat → Option Nat) (t c : Nat) : Nat → Option Nat := fun i => if i = t then some c else ψ i

/-- A new one. -/
theorem Inv.newL {p : Bool} {N : Nat × List Deferred} {φ0 φ : Phi} {s0 s : St} {w0 w : World} {ψ : Nat → Option Nat} {fr : Fr} {a : Act} {t : Nat} {cs cs' : List Value} {R : Type} {K : Fr → Option R} {r : R} (e : TypeId)
    (h : Inv p N φ0 s0 w0 φ ψ s fr a w) (hv : VsRel φ cs cs') (h1 : oneCs cs = true) (hk : newLK fr t cs K = some r) :
    ∃ fr', K fr' = some r ∧ (Keeps fr fr' none ∧ LocSame fr fr' ∧ ∀ x, x < w.heap.size → (∀ t' cs2, lookL fr.l t' = some cs2 → ψ t' ≠ some x) → ∀ t' cs2, lookL fr'.l t' = some cs2 → putPsi ψ t w.heap.size t' ≠ some x) ∧ putPsi ψ t w.heap.size t = some w.heap.size ∧ Inv p N φ0 s0 w0 φ (putPsi ψ t w.heap.size) s fr' a (w.alloc (.cells ⟨cs'⟩ e)) := by
  obtain ⟨en, l, g⟩ := fr
  simp only [newLK] at hk
  cases hf : freeE en t with
  | false => simp [hf] at hk
  | true =>
    cases hg : freeGL g t with
    | false => simp [hf, hg] at hk
    | true =>
      rw [hf, hg] at hk
      have hb : Below w.heap.size w (w.alloc (.cells ⟨cs'⟩ e)) := (Below.refl _ _).alloc (Nat.le_refl _) _
      have h2 := h.below hb fun a _ => Go.RowKit.frozen?_alloc_cells w _ _ a
      refine ⟨_, hk, ⟨⟨fun _ _ => rfl, fun _ _ => rfl⟩, fun t' ht => by
        have hne : t' ≠ t := by
          rcases ht with ⟨i, j, h5⟩ | ⟨i, j, gt, b, h5⟩
          · exact freeE_spec hf i t' j h5
          · exact freeGL_spec hg i t' j gt b h5
        simp only [lookL]
        rw [if_neg hne], fun x hx ha t' cs2 hl => by
        unfold putPsi
        split
        · simp only [ne_eq, Option.some.injEq]; omega
        · rename_i hne
          simp only [lookL, if_neg hne] at hl
          exact ha t' cs2 hl⟩, by simp [putPsi], h2.step, ⟨⟨fun i x hx => ?_, fun i t' j gt b hl => ?_⟩, fun i cs2 hl => ?_⟩, ⟨fun i cs2 c hl hc => ?_, fun i cs2 c b k l2 hl hc hb2 hp => ?_, fun i i' cs2 cs3 c hne hl hl' hc => ?_⟩, h2.defers, h2.size, h2.pure⟩
      · obtain ⟨g1, g2⟩ := h2.frel.env i x hx
        refine ⟨g1, ?_⟩
        cases x with
        | val v => exact g2
        | lp t' j =>
          have := freeE_spec hf i t' j hx
          obtain ⟨c, e1, e2⟩ := g2
          exact ⟨c, by simp only [putPsi, if_neg this]; exact e1, e2⟩
      · obtain ⟨g1, g2⟩ := h2.frel.grd i t' j gt b hl
        refine ⟨g1, fun hb => ?_⟩
        have := freeGL_spec hg i t' j gt b hl
        obtain ⟨c, e1, e2⟩ := g2 hb
        exact ⟨c, by simp only [putPsi, if_neg this]; exact e1, e2⟩
      · simp only [lookL] at hl
        split at hl
        · rename_i hi
          subst hi
          simp only [Option.some.injEq] at hl
          subst hl
          exact ⟨w.heap.size, by simp [putPsi], h1, ⟨cs'⟩, e, heap_alloc_new w _, hv⟩
        · rename_i hi
          obtain ⟨c, e1, e2⟩ := h2.frel.loc i cs2 hl
          exact ⟨c, by simp only [putPsi, if_neg hi]; exact e1, e2⟩
      · simp only [lookL] at hl
        simp only [putPsi] at hc
        split at hl
        · rename_i hi
          rw [if_pos hi] at hc
          simp only [Option.some.injEq] at hc
          subst hc
          exact h.step.frm.size
        · rename_i hi
          rw [if_neg hi] at hc
          exact h2.apart.new i cs2 c hl hc
      · simp only [lookL] at hl
        simp only [putPsi] at hc
        split at hl
        · rename_i hi
          rw [if_pos hi] at hc
          simp only [Option.some.injEq] at hc
          subst hc
          obtain ⟨l3, g1, g2⟩ := h.step.rel.blk b k hb2
          rw [hp] at g1
          simp only [Option.some.injEq] at g1
          subst g1
          have := g2.lt
          omega
        · rename_i hi
          rw [if_neg hi] at hc
          exact h2.apart.row i cs2 c b k l2 hl hc hb2 hp
      · simp only [lookL] at hl hl'
        simp only [putPsi] at hc ⊢
        by_cases hi : i = t
        · rw [if_pos hi] at hc
          simp only [Option.some.injEq] at hc
          subst hc
          by_cases hi' : i' = t
          · exact absurd (hi.trans hi'.symm) hne
          · rw [if_neg hi'] at hl' ⊢
            obtain ⟨c', e1, e2⟩ := h.frel.loc i' cs3 hl'
            rw [e1]
            simp only [ne_eq, Option.some.injEq]
            have := e2.lt
            omega
        · rw [if_neg hi] at hc hl
          by_cases hi' : i' = t
          · rw [if_pos hi']
            obtain ⟨c', e1, e2⟩ := h.frel.loc i cs2 hl
            have e3 : c' = c := by
              have : ψ i = some c := hc
              rw [this] at e1
              exact (Option.some.inj e1).symm
            have := e2.lt
            simp only [ne_eq, Option.some.injEq]
            omega
          · rw [if_neg hi'] at hl' ⊢
            exact h.apart.one i i' cs2 cs3 c hne hl hl' hc

/-- One written. -/
theorem Inv.setL {p : Bool} {N : Nat × List Deferred} {φ0 φ : Phi} {s0 s : St} {w0 w : World} {ψ : Nat → Option Nat} {fr : Fr} {a : Act} {t c : Nat} {cs old : List Value} {cs' : Array Value} {R : Type} {K : Fr → Option R} {r : R}
    (h : Inv p N φ0 s0 w0 φ ψ s fr a w) (hold : lookL fr.l t = some old) (hc : ψ t = some c) {w' : World} (e : TypeId) (hw : w'.heap[c]? = some (.cells cs' e (0, 0))) (hv : VsRel φ cs cs'.toList) (h1 : oneCs cs = true)
    (hf : ∀ i, i ≠ c → w'.heap[i]? = w.heap[i]?) (hsz : w'.heap.size = w.heap.size) (ho : w'.os = w.os) (ht : w'.tape = w.tape) (hu : w'.output = w.output) (hk : putLK fr t cs K = some r) :
    ∃ fr', K fr' = some r ∧ Keeps fr fr' none ∧ (∀ t', t' ≠ t → lookL fr'.l t' = lookL fr.l t') ∧ Inv p N φ0 s0 w0 φ ψ s fr' a w' := by
  obtain ⟨en, l, g⟩ := fr
  simp only [putLK] at hk
  have hnew : w0.heap.size ≤ c := h.apart.new t old c hold hc
  have hrel : Rel φ s w' := by
    refine ⟨h.step.rel.fresh, fun b k hb => ?_, h.step.rel.inj⟩
    obtain ⟨l2, g1, g2⟩ := h.step.rel.blk b k hb
    exact ⟨l2, g1, g2.of_same (.refl _) (hf _ (h.apart.row t old c b k l2 hold hc hb g1))⟩
  have hstep : Step φ0 s0 w0 φ s w' := by
    refine ⟨hrel, h.step.ext, ⟨ho.trans h.step.frm.os, ht.trans h.step.frm.tape, hu.trans h.step.frm.output, by rw [hsz]; exact h.step.frm.size, fun i hi hn => ?_⟩, h.step.own⟩
    rw [hf i (by omega)]
    exact h.step.frm.old i hi hn
  refine ⟨_, hk, ⟨fun _ _ => rfl, fun _ _ => rfl⟩, fun t' ht' => by simp only [lookL, if_neg ht'], hstep, ⟨⟨h.frel.env, h.frel.grd⟩, fun i cs2 hl => ?_⟩, ⟨fun i cs2 c2 hl hc2 => ?_, fun i cs2 c2 b k l2 hl hc2 hb hp => ?_, fun i i' cs2 cs3 c2 hne hl hl' hc2 => ?_⟩, h.defers, h.size, fun hp => ?_⟩
  · simp only [lookL] at hl
    split at hl
    · rename_i hi
      subst hi
      simp only [Option.some.injEq] at hl
      subst hl
      exact ⟨c, hc, h1, cs', e, hw, hv⟩
    · rename_i hi
      obtain ⟨c2, e1, e2⟩ := h.frel.loc i cs2 hl
      refine ⟨c2, e1, e2.of_same (.refl _) (hf c2 fun e3 => ?_)⟩
      subst e3
      exact h.apart.one i t cs2 old c2 hi hl hold e1 hc
  · simp only [lookL] at hl
    split at hl
    · rename_i hi
      subst hi
      exact h.apart.new i old c2 hold hc2
    · exact h.apart.new i cs2 c2 hl hc2
  · simp only [lookL] at hl
    split at hl
    · rename_i hi
      subst hi
      exact h.apart.row i old c2 b k l2 hold hc2 hb hp
    · exact h.apart.row i cs2 c2 b k l2 hl hc2 hb hp
  · simp only [lookL] at hl hl'
    have q : ∀ j cs4, (if j = t then some cs else lookL l j) = some cs4 → ∃ cs5, lookL l j = some cs5 := by
      intro j cs4 hj
      split at hj
      · rename_i hjt; subst hjt; exact ⟨old, hold⟩
      · exact ⟨cs4, hj⟩
    obtain ⟨a1, b1⟩ := q i cs2 hl
    obtain ⟨a2, b2⟩ := q i' cs3 hl'
    exact h.apart.one i i' a1 a2 c2 hne b1 b2 hc2
  · obtain ⟨e1, e2, e3⟩ := h.pure hp
    exact ⟨e1, e2, ⟨ho.trans e3.os, ht.trans e3.tape, hu.trans e3.output, by rw [hsz]; exact e3.size, fun i hi => by rw [hf i (by omega)]; exact e3.block i hi⟩⟩

/-! ### Operands -/

section
variable {p : Bool} {N : Nat × List Deferred} {φ0 φ : Phi} {s0 s : St} {w0 w : World} {ψ : Nat → Option Nat} {fr : Fr} {a : Act}

/-- The guard under which an operation runs holds. -/
def GOk (a : Act) (og : Option (Nat × Bool)) : Prop := ∀ gt b, og = some (gt, b) → a.tmps[gt]? = some (.bool b)

theorem evE_sound (h : EnvRel φ ψ fr a) {og : Option (Nat × Bool)} (hg : GOk a og) {o : Operand} {x : Ent} (hx : evE fr og o = some x) : EntRel φ ψ x (a.eval o) := by
  cases o with
  | tmp t =>
    simp only [evE] at hx
    cases hl : lookG fr.g t with
    | none => rw [hl] at hx; exact (h.env t x hx).2
    | some q =>
      obtain ⟨t', j, gt, b⟩ := q
      rw [hl] at hx
      simp only at hx
      cases og with
      | none => simp at hx
      | some gb =>
        obtain ⟨gt', b'⟩ := gb
        simp only at hx
        split at hx
        · rename_i e1
          subst e1
          split at hx
          · rename_i e2
            subst e2
            simp only [Option.some.injEq] at hx
            subst hx
            exact (h.grd t t' j gt b hl).2 (hg gt b rfl)
          · simp at hx
        · simp at hx
  | const v =>
    simp only [evE] at hx
    split at hx
    · rename_i hp
      simp only [Option.some.injEq] at hx
      subst hx
      exact VRel.of_plain φ hp
    · simp at hx
  | global g => simp [evE] at hx
  | func f =>
    simp only [evE, Option.some.injEq] at hx
    subst hx
    exact VRel.func _ .nil .nil

theorem evV_sound (h : EnvRel φ ψ fr a) {o : Operand} {v : Value} (hx : evV fr o = some v) : VRel φ v (a.eval o) := by
  unfold evV at hx
  split at hx
  · rename_i u hu
    simp only [Option.some.injEq] at hx
    subst hx
    exact evE_sound h (og := none) (fun _ _ e => by simp at e) hu
  · simp at hx

theorem evVs_sound (h : EnvRel φ ψ fr a) : ∀ {os : List Operand} {vs : List Value}, evVs fr os = some vs → VsRel φ vs (os.map a.eval)
  | [], vs, hx => by simp only [evVs, Option.some.injEq] at hx; subst hx; exact .nil
  | o :: os, vs, hx => by
    simp only [evVs] at hx
    cases h1 : evV fr o with
    | none => simp [h1] at hx
    | some v =>
      cases h2 : evVs fr os with
      | none => simp [h1, h2] at hx
      | some vs' =>
        simp only [h1, h2, Option.some.injEq] at hx
        subst hx
        exact .cons (evV_sound h h1) (evVs_sound h h2)

theorem evO_sound (h : EnvRel φ ψ fr a) {o : Option Operand} {v : Option Value} (hx : evO fr o = some v) : ORel φ v (o.map a.eval) := by
  cases o with
  | none => simp only [evO, Option.some.injEq] at hx; subst hx; exact .none
  | some o =>
    simp only [evO] at hx
    cases h1 : evV fr o with
    | none => simp [h1] at hx
    | some u => simp only [h1, Option.some.injEq] at hx; subst hx; exact .some (evV_sound h h1)

theorem evPs_sound (h : EnvRel φ ψ fr a) : ∀ {os : List (Nat × Operand)} {vs : List (Nat × Value)}, evPs fr os = some vs →
    vs.length = (os.map fun q => (q.1, a.eval q.2)).length ∧ ∀ (k i : Nat) (v : Value), vs[k]? = some (i, v) → ∃ v', (os.map fun q => (q.1, a.eval q.2))[k]? = some (i, v') ∧ VRel φ v v'
  | [], vs, hx => by simp only [evPs, Option.some.injEq] at hx; subst hx; simp
  | (i, o) :: os, vs, hx => by
    simp only [evPs] at hx
    cases h1 : evV fr o with
    | none => simp [h1] at hx
    | some v =>
      cases h2 : evPs fr os with
      | none => simp [h1, h2] at hx
      | some vs' =>
        simp only [h1, h2, Option.some.injEq] at hx
        subst hx
        obtain ⟨e1, e2⟩ := evPs_sound h h2
        refine ⟨by simpa using e1, fun k i' v' hk => ?_⟩
        cases k with
        | zero =>
          simp only [List.getElem?_cons_zero, Option.some.injEq, Prod.mk.injEq] at hk
          obtain ⟨rfl, rfl⟩ := hk
          exact ⟨_, rfl, evV_sound h h1⟩
        | succ k => simpa using e2 k i' v' (by simpa using hk)

end

end Go.Sim
set_option linter.unusedSimpArgs false
namespace Go.Sim
open Go.RowKit (Below)

section
variable {P : Program} (w : World)

theorem toArray_of_toList {α : Type} {a : Array α} {l : List α} (h : a.toList = l) : a = ⟨l⟩ := by
  cases a; simp at h; rw [h]

theorem load_one {φ : Phi} {s : St} {t : TypeId} {v v' x : Value} (h : Rel φ s w) (ha : aggT P t = some false) (hv : VRel φ v v') (hx : ldc s v = some x) :
    ∃ x', (Instr.loadAt t v').run P w = .ok x' w ∧ VRel φ x x' := by
  obtain ⟨a, x', rfl, hc, hr⟩ := ldc_sound h hv hx
  refine ⟨x', ?_, hr⟩
  simp only [Instr.loadAt, Instr.sureAddr, loadVar, Sem.run_bind, Sem.run_pure, Result.andThen_ok, run_isAgg w ha, Bool.false_eq_true, if_false, run_load, hc]

theorem load_agg {φ : Phi} {s : St} {t : TypeId} {n : Nat} {v v' x : Value} (h : Rel φ s w) (ha : aggT P t = some true) (hn : sizeT P t = some n) (hv : VRel φ v v') (hx : lda s n v = some x) :
    ∃ x', (Instr.loadAt t v').run P w = .ok x' w ∧ VRel φ x x' := by
  obtain ⟨a, xs', rfl, hl, hc, hr⟩ := lda_sound h hv hx
  refine ⟨_, ?_, hr⟩
  subst hl
  have := run_loadCells_list (P := P) w a xs' hc
  simp only [Instr.loadAt, Instr.sureAddr, loadVar, Sem.run_bind, Sem.run_pure, Result.andThen_ok, run_isAgg w ha, if_true, run_sizeOf w hn, this]

/-- A cell of the call's own variable. -/
theorem load_one_l {φ : Phi} {t : TypeId} {cs : List Value} {c j : Nat} {x : Value} (h : LAt φ cs c w) (ha : aggT P t = some false) (hx : lcl cs j = some x) :
    ∃ x', (Instr.loadAt t (.pointer (some ⟨c, j, none⟩))).run P w = .ok x' w ∧ VRel φ x x' := by
  obtain ⟨_, cs', e, hh, hr⟩ := h
  obtain ⟨x', h1, h2⟩ := hr.get hx
  refine ⟨x', ?_, h2⟩
  have hc : w.cell? ⟨c, j, none⟩ = some x' := by rw [cell_at hh]; simpa using h1
  simp only [Instr.loadAt, Instr.sureAddr, loadVar, Sem.run_bind, Sem.run_pure, Result.andThen_ok, run_isAgg w ha, Bool.false_eq_true, if_false, run_load, hc]

theorem load_agg_l {φ : Phi} {t : TypeId} {cs : List Value} {c j n : Nat} {x : Value} (h : LAt φ cs c w) (ha : aggT P t = some true) (hn : sizeT P t = some n) (hx : lal cs j n = some x) :
    ∃ x', (Instr.loadAt t (.pointer (some ⟨c, j, none⟩))).run P w = .ok x' w ∧ VRel φ x x' := by
  obtain ⟨h1, cs', e, hh, hr⟩ := h
  simp only [lal] at hx
  split at hx
  · rename_i hle
    simp only [Option.some.injEq] at hx
    subst hx
    have hlen := hr.length
    have hl : ((cs'.toList.drop j).take n).length = n := by simp at hlen ⊢; omega
    refine ⟨_, ?_, .agg ((hr.drop j).take n) (oneCs_take _ (oneCs_drop _ h1))⟩
    have := run_loadCells_list (P := P) w ⟨c, j, none⟩ ((cs'.toList.drop j).take n) fun i v hv => by
      rw [Addr.add_mid, cell_at hh]
      rw [List.getElem?_take] at hv
      split at hv
      · rw [List.getElem?_drop] at hv; simpa using hv
      · simp at hv
    rw [hl] at this
    simp only [Instr.loadAt, Instr.sureAddr, loadVar, Sem.run_bind, Sem.run_pure, Result.andThen_ok, run_isAgg w ha, if_true, run_sizeOf w hn, this]
  · simp at hx

theorem cells_size (v : Value) : v.cells.size = (cellsL v).length := by
  rw [← cells_toList]; simp

theorem store_sound {φ : Phi} {s s' : St} {t : TypeId} {n : Nat} {p p' v v' : Value} (h : Rel φ s w) (hn : sizeT P t = some n) (hp : VRel φ p p') (hv : VRel φ v v') (hx : stv s n p v = some s') :
    ∃ w', (Instr.storeAt t p' v').run P w = .ok () w' ∧ Step φ s w φ s' w' := by
  simp only [stv] at hx
  cases hb : bx v with
  | none => simp [hb] at hx
  | some cs =>
    simp only [hb, Option.bind_some] at hx
    split at hx
    · rename_i hl
      obtain ⟨h1, h2, h3⟩ := bx_rel hv hb
      obtain ⟨a, w', rfl, hr, hs⟩ := sto_sound P h hp h1 h2 hx
      refine ⟨w', ?_, hs⟩
      have hsz : v'.cells.size = n := by rw [cells_size, ← h1.length, hl]
      simp only [Instr.storeAt, Instr.sureAddr, storeVar, Sem.run_bind, Sem.run_pure, Result.andThen_ok, run_sizeOf w hn, hsz, ne_eq, not_true_eq_false, if_false, cells_toList, hr]
    · simp at hx

/-- Into the call's own variable. -/
theorem store_l {φ : Phi} {t : TypeId} {cs cs2 : List Value} {c j n : Nat} {v v' : Value} (h : LAt φ cs c w) (hn : sizeT P t = some n) (hv : VRel φ v v') (hx : stl cs j n v = some cs2) :
    ∃ w' cs' e, (Instr.storeAt t (.pointer (some ⟨c, j, none⟩)) v').run P w = .ok () w' ∧ w'.heap[c]? = some (.cells cs' e (0, 0)) ∧ VsRel φ cs2 cs'.toList ∧ oneCs cs2 = true ∧
      (∀ i, i ≠ c → w'.heap[i]? = w.heap[i]?) ∧ w'.heap.size = w.heap.size ∧ w'.os = w.os ∧ w'.tape = w.tape ∧ w'.output = w.output := by
  obtain ⟨h1, cs', e, hh, hr⟩ := h
  simp only [stl] at hx
  cases hb : bx v with
  | none => simp [hb] at hx
  | some vs =>
    simp only [hb, Option.bind_some] at hx
    split at hx
    · rename_i hl
      simp only [Option.some.injEq] at hx
      subst hx
      obtain ⟨g1, g2, g3⟩ := bx_rel hv hb
      have hsz : v'.cells.size = n := by rw [cells_size, ← g1.length, hl.1]
      have hvl := g1.length
      have hlen := hr.length
      have hone : ∀ x ∈ cellsL v', x.oneCell' = true := by
        have ho := g1.oneCs
        rw [g2] at ho
        intro x hx
        obtain ⟨m, hm⟩ := List.getElem?_of_mem hx
        have := oneCs_get ho hm
        cases x <;> simp_all [oneC, Value.oneCell']
      have hle : j + 0 + (cellsL v').length ≤ cs'.size := by simp at hlen; omega
      have hrun := run_storeCells_at P c j e (cellsL v') 0 cs' w hh hle hone
      let nw : Array Value := (cs'.toList.take (j + 0) ++ cellsL v' ++ cs'.toList.drop (j + 0 + (cellsL v').length)).toArray
      refine ⟨w.setRow c nw, nw, e, ?_, setRow_heap w c cs' nw e _ hh, ?_, oneCs_spl h1 g2 (by omega), fun i hi => setRow_other w c i _ hi, by simp, rfl, rfl, rfl⟩
      · simp only [Instr.storeAt, Instr.sureAddr, storeVar, Sem.run_bind, Sem.run_pure, Result.andThen_ok, run_sizeOf w hn, hsz, ne_eq, not_true_eq_false, if_false, cells_toList, hrun, nw]
      · have hs := hr.spl j g1
        have he : spl cs'.toList j (cellsL v') = cs'.toList.take (j + 0) ++ cellsL v' ++ cs'.toList.drop (j + 0 + (cellsL v').length) := by
          apply List.ext_getElem?
          intro o
          rw [spl_get _ _ _ _ (by simp; omega)]
          by_cases ho : o < j
          · rw [if_neg (by omega), List.append_assoc, List.getElem?_append_left (by simp; omega)]
            simp [ho]
          · by_cases ho2 : o < j + (cellsL v').length
            · rw [if_pos (by omega), List.append_assoc, List.getElem?_append_right (by simp; omega), List.getElem?_append_left (by simp; omega)]
              congr 1
              simp; omega
            · rw [if_neg (by omega), List.append_assoc, List.getElem?_append_right (by simp; omega), List.getElem?_append_right (by simp; omega), List.getElem?_drop]
              congr 1
              simp; omega
        rw [he] at hs
        simpa [nw] using hs
    · simp at hx

theorem alloc_run {t : TypeId} {z : Value} (hz : zeroT P t = some z) :
    (Instr.alloc t true (.tuple #[])).run P w = .ok (.pointer (some ⟨w.heap.size, 0, none⟩)) (w.alloc (.cells ⟨cellsL z⟩ t)) := by
  simp only [Instr.alloc, Sem.run_bind, run_zeroValue w hz, Result.andThen_ok, newVar, newRow, Sem.run_pure, run_newObj, Result.andThen_ok, toArray_of_toList (cells_toList z), World.alloc]

theorem box_run (t : TypeId) (v : Value) :
    (Instr.box t v).run P w = .ok (.pointer (some ⟨w.heap.size, 0, none⟩)) (w.alloc (.cells ⟨cellsL v⟩ t)) := by
  simp only [Instr.box, Sem.run_bind, Result.andThen_ok, newVar, newRow, Sem.run_pure, run_newObj, Result.andThen_ok, toArray_of_toList (cells_toList v), World.alloc]

theorem alv_sound {φ : Phi} {s s' : St} {v v' r : Value} (t : TypeId) (h : Rel φ s w) (hv : VRel φ v v') (hx : alv s v = some (r, s')) :
    ∃ φ', VRel φ' r (.pointer (some ⟨w.heap.size, 0, none⟩)) ∧ Step φ s w φ' s' (w.alloc (.cells ⟨cellsL v'⟩ t)) := by
  simp only [alv] at hx
  cases hb : bx v with
  | none => simp [hb] at hx
  | some cs =>
    simp only [hb, Option.bind_some] at hx
    obtain ⟨h1, h2, _⟩ := bx_rel hv hb
    exact alc_sound t h h1 h2 hx

theorem iface_run {t : TypeId} {d : TypeDesc} {x : Value} (h : P.underlying t = some d) (hd : ∀ m, d ≠ .interface m) : (Instr.makeInterface t x).run P w = .ok (.iface t x) w := by
  simp only [Instr.makeInterface, Sem.run_bind, run_underlying h, Result.andThen_ok]
  cases d <;> first | rfl | exact absurd rfl (hd _)

theorem xtr_sound {φ : Phi} {i : Nat} {v v' r : Value} (hv : VRel φ v v') (hx : xtr i v = some r) : ∃ r', (Instr.extract v' i).run P w = .ok r' w ∧ VRel φ r r' := by
  cases hv <;> simp only [xtr, reduceCtorEq] at hx
  rename_i h
  obtain ⟨r', h1, h2⟩ := h.get hx
  refine ⟨r', ?_, h2⟩
  simp [Instr.extract, h1]

theorem lenS_sound {φ : Phi} {t ty : TypeId} {v v' r : Value} (ht : P.underlying t = some .string) (hv : VRel φ v v') (hx : lenS v = some r) :
    plainV r = true ∧ (Builtin.len_ #[t] ty #[v']).run P w = .ok r w := by
  cases hv <;> simp only [lenS, reduceCtorEq, Option.some.injEq] at hx
  subst hx
  exact ⟨rfl, by simp [Builtin.len_, run_underlying ht, goInt]⟩

theorem lenL_sound {φ : Phi} {t ty e : TypeId} {v v' r : Value} (ht : P.underlying t = some (.slice e)) (hv : VRel φ v v') (hx : lenL v = some r) :
    plainV r = true ∧ (Builtin.len_ #[t] ty #[v']).run P w = .ok r w := by
  cases hv <;> simp only [lenL, reduceCtorEq, Option.some.injEq] at hx <;> subst hx <;>
  exact ⟨rfl, by simp [Builtin.len_, run_underlying ht, goInt]⟩

theorem lenM_sound {φ : Phi} {s : St} {t ty k e : TypeId} {v v' r : Value} (h : Rel φ s w) (ht : P.underlying t = some (.map k e)) (hv : VRel φ v v') (hx : lenM s v = some r) :
    plainV r = true ∧ (Builtin.len_ #[t] ty #[v']).run P w = .ok r w := by
  cases hv <;> simp only [lenM, reduceCtorEq, Option.some.injEq] at hx
  case mnil =>
    subst hx
    exact ⟨rfl, by simp [Builtin.len_, run_underlying ht, goInt]⟩
  case map b l hb =>
    cases hg : s.get b with
    | none => simp [hg] at hx
    | some q =>
      cases q with
      | row sz rows ro => simp [hg] at hx
      | map es ro =>
        simp only [hg, Option.some.injEq] at hx
        subst hx
        obtain ⟨l2, g1, g2⟩ := h.blk b _ hg
        rw [hb] at g1
        simp only [Option.some.injEq] at g1
        subst g1
        obtain ⟨es', clk, f1, f2, _⟩ := g2
        refine ⟨rfl, ?_⟩
        have hobj : (getObj l.blk).run P w = .ok (.map es' clk) w := by simp [getObj, Sem.run, f1]
        simp [Builtin.len_, run_underlying ht, goInt, hobj, f2]

theorem mn2_sound {φ : Phi} {x x' y y' r : Value} (ts : Array TypeId) (ty : TypeId) (hx : VRel φ x x') (hy : VRel φ y y') (he : mn2 x y = some r) : plainV r = true ∧ (Builtin.min_ ts ty #[x', y']).run P w = .ok r w := by
  cases hx <;> simp only [mn2, reduceCtorEq] at he
  cases hy <;> simp only [mn2, reduceCtorEq, Option.some.injEq] at he
  subst he
  exact ⟨rfl, by simp [Builtin.min_, Builtin.min2]⟩

theorem mx2_sound {φ : Phi} {x x' y y' r : Value} (ts : Array TypeId) (ty : TypeId) (hx : VRel φ x x') (hy : VRel φ y y') (he : mx2 x y = some r) : plainV r = true ∧ (Builtin.max_ ts ty #[x', y']).run P w = .ok r w := by
  cases hx <;> simp only [mx2, reduceCtorEq] at he
  cases hy <;> simp only [mx2, reduceCtorEq, Option.some.injEq] at he
  subst he
  exact ⟨rfl, by simp [Builtin.max_, Builtin.max2]⟩

end
end Go.Sim
set_option linter.unusedSimpArgs false
namespace Go.Sim
open Go.RowKit (Below)

/-! ### What is known of the functions called -/

def FnOk (P : Program) (f : FuncId) : Fn' → Prop
  | .st v => ∀ (φ : Phi) (s : St) (w : World) (args args' : List Value) (r : Value) (s' : St), Rel φ s w → VsRel φ args args' → v args s = some (r, s') → Calls P f ⟨args'⟩ w fun
      | .returned u, w' => ∃ φ', Step φ s w φ' s' w' ∧ VRel φ' r u
      | _, _ => False
  | .rd g => ∀ (φ : Phi) (s : St) (w : World) (args args' : List Value) (r : Value), Rel φ s w → VsRel φ args args' → g args s = some r → Calls P f ⟨args'⟩ w fun
      | .returned u, w' => (Below w.heap.size w w' ∧ Froz w w') ∧ VRel φ r u
      | _, _ => False
  | .pn v => ∀ (φ : Phi) (s : St) (w : World) (args args' : List Value) (b : Bool) (r : Value) (s' : St), Rel φ s w → VsRel φ args args' → v args s = some (b, r, s') → Calls P f ⟨args'⟩ w fun
      | .returned u, w' => b = true ∧ ∃ φ', Step φ s w φ' s' w' ∧ VRel φ' r u
      | .panicked c, w' => b = false ∧ ∃ φ' u, c = [{ v := u, recovered := false }] ∧ Step φ s w φ' s' w' ∧ VRel φ' r u
      | _, _ => False

/-- May the function be entered? -/
def callOk (P : Program) (f : FuncId) : Bool :=
  match P.funcs[f]? with
  | some fn => fn.name != "runtime.NumGoroutine" && fn.body.isSome
  | none => false

theorem run_callFunc {P : Program} {f : FuncId} (h : callOk P f = true) (args : Array Value) (w : World) : (callFunc f args).run P w = .ok (.enter f args) w := by
  unfold callOk at h
  cases hf : P.funcs[f]? with
  | none => simp [hf] at h
  | some fn =>
    simp only [hf, Bool.and_eq_true, bne_iff_ne, ne_eq] at h
    cases hb : fn.body with
    | none => simp [hb] at h
    | some c => simp [callFunc, hf, h.1, hb]

structure CtxOk (P : Program) (C : Ctx) : Prop where
  ok : ∀ f x, lookC C f = some x → FnOk P f x
  run : ∀ f x, lookC C f = some x → callOk P f = true

/-! ### What an operation does -/

/-- What a computation brings, of an operation: a value and the world behind it. -/
def DoesE (P : Program) (e : Sem Next) (w : World) (R : Value → World → Prop) : Prop :=
  match e.run P w with
  | .ok (.value v) w' => R v w'
  | .ok .skip w' => R undef w'
  | .ok (.enter f args) w' => Calls P f args w' fun
    | .returned v, w'' => R v w''
    | _, _ => False
  | _ => False

def Does (P : Program) (o : Oper) (a : Act) (w : World) (R : Value → World → Prop) : Prop := DoesE P (execOp a.eval o) w R

theorem DoesE.wp {P : Program} {o : Oper} {a : Act} {w : World} {R : Value → World → Prop} (h : DoesE P (execOp a.eval o) w R) {next : Act → World → Prop} {Q : Exit → Act → World → Prop}
    (hn : ∀ u w', R u w' → next (a.put o.dst u) w') : o.wp P a w next Q := by
  unfold Oper.wp
  unfold DoesE at h
  generalize (execOp a.eval o).run P w = x at h
  cases x with
  | ok n w' =>
    cases n <;> simp only at h <;> simp only [Oper.upon] <;> first
      | exact hn _ _ h
      | exact Calls.mono h fun e w'' he => by cases e <;> first | exact hn _ _ he | exact he.elim
  | halt x w' => exact h.elim

/-- The same, of one that may panic: what becomes of the panic's value. -/
def DoesX (P : Program) (e : Sem Next) (w : World) (R Z : Value → World → Prop) : Prop :=
  match e.run P w with
  | .ok (.value v) w' => R v w'
  | .ok .skip w' => R undef w'
  | .ok (.enter f args) w' => Calls P f args w' fun
    | .returned v, w'' => R v w''
    | .panicked c, w'' => ∃ u, c = [{ v := u, recovered := false }] ∧ Z u w''
    | _, _ => False
  | .halt (.panic v) w' => Z v w'
  | _ => False

theorem DoesX.of {P : Program} {e : Sem Next} {w : World} {R Z : Value → World → Prop} (h : DoesE P e w R) : DoesX P e w R Z := by
  unfold DoesE at h
  unfold DoesX
  generalize e.run P w = x at *
  cases x with
  | ok n w' =>
    cases n <;> simp only at h ⊢ <;> first
      | exact h
      | exact Calls.mono h fun e w'' he => by cases e <;> first | exact he | exact he.elim
  | halt x w' => exact h.elim

theorem DoesX.wp {P : Program} {o : Oper} {a : Act} {w : World} {R Z : Value → World → Prop} (h : DoesX P (execOp a.eval o) w R Z) {next : Act → World → Prop} {Q : Exit → Act → World → Prop}
    (hn : ∀ u w', R u w' → next (a.put o.dst u) w') (hz : ∀ u w', Z u w' → Q (.panic [{ v := u, recovered := false }]) a w') : o.wp P a w next Q := by
  unfold Oper.wp
  unfold DoesX at h
  generalize (execOp a.eval o).run P w = x at h
  cases x with
  | ok n w' =>
    cases n <;> simp only at h <;> simp only [Oper.upon] <;> first
      | exact hn _ _ h
      | exact Calls.mono h fun e w'' he => by
          cases e with
          | returned v => exact hn _ _ he
          | panicked c => obtain ⟨u, rfl, he⟩ := he; exact hz _ _ he
          | outgrown => exact he.elim
  | halt x w' =>
    cases x <;> simp only at h <;> simp only [Oper.upon] <;> first | exact hz _ _ h | exact h.elim

theorem DoesX.mono {P : Program} {e : Sem Next} {w : World} {R R' Z Z' : Value → World → Prop} (h : DoesX P e w R Z) (hr : ∀ u w', R u w' → R' u w') (hz : ∀ u w', Z u w' → Z' u w') : DoesX P e w R' Z' := by
  unfold DoesX at *
  generalize e.run P w = x at *
  cases x with
  | ok n w' =>
    cases n <;> simp only at h ⊢ <;> first
      | exact hr _ _ h
      | exact Calls.mono h fun e w'' he => by
          cases e with
          | returned v => exact hr _ _ he
          | panicked c => obtain ⟨u, h1, he⟩ := he; exact ⟨u, h1, hz _ _ he⟩
          | outgrown => exact he.elim
  | halt x w' => cases x <;> simp only at h ⊢ <;> first | exact hz _ _ h | exact h.elim

def Gives (P : Program) (o : Oper) (a : Act) (w : World) (u : Value) : Prop := (execOp a.eval o).run P w = .ok (.value u) w

theorem DoesE.mono {P : Program} {e : Sem Next} {w : World} {R R' : Value → World → Prop} (h : DoesE P e w R) (hr : ∀ u w', R u w' → R' u w') : DoesE P e w R' := by
  unfold DoesE at *
  generalize e.run P w = x at *
  cases x with
  | ok n w' =>
    cases n <;> simp only at h ⊢ <;> first
      | exact hr _ _ h
      | exact Calls.mono h fun e w'' he => by cases e <;> first | exact hr _ _ he | exact he.elim
  | halt x w' => exact h.elim

theorem does_value {P : Program} {o : Oper} {a : Act} {w w' : World} {u : Value} {R : Value → World → Prop} (h : (execOp a.eval o).run P w = .ok (.value u) w') (hr : R u w') : Does P o a w R := by
  unfold Does DoesE
  rw [h]
  exact hr

theorem does_skip {P : Program} {o : Oper} {a : Act} {w w' : World} {R : Value → World → Prop} (h : (execOp a.eval o).run P w = .ok .skip w') (hr : R undef w') : Does P o a w R := by
  unfold Does DoesE
  rw [h]
  exact hr

theorem does_enter {P : Program} {o : Oper} {a : Act} {w w' : World} {f : FuncId} {args : Array Value} {R : Value → World → Prop} (h : (execOp a.eval o).run P w = .ok (.enter f args) w')
    (hc : Calls P f args w' fun | .returned u, w'' => R u w'' | _, _ => False) : Does P o a w R := by
  unfold Does DoesE
  rw [h]
  exact hc

def OpSpec (P : Program) (φ : Phi) (ψ : Nat → Option Nat) (fr : Fr) (s : St) (o : Oper) (a : Act) (w : World) : OpR → Prop
  | .k v => ∃ u, Gives P o a w u ∧ VRel φ v u
  | .v m => ∀ v, m = some v → (∃ u, Gives P o a w u ∧ VRel φ v u) ∨ ((∃ c f, o.op = .call c ∧ c.callee = .value (.func f)) ∧ Does P o a w fun u w' => (Below w.heap.size w w' ∧ Froz w w') ∧ VRel φ v u)
  | .s m => ∀ r s', m = some (r, s') → Does P o a w fun u w' => ∃ φ', Step φ s w φ' s' w' ∧ VRel φ' r u
  | .u m => ∀ s', m = some s' → Does P o a w fun u w' => u = undef ∧ Step φ s w φ s' w'
  | .p t j => ∃ c, ψ t = some c ∧ Gives P o a w (.pointer (some ⟨c, j, none⟩))
  | .box t m => ∀ cs, m = some cs → o.dst = some t ∧ ∃ cs' e, VsRel φ cs cs' ∧ oneCs cs = true ∧ (execOp a.eval o).run P w = .ok (.value (.pointer (some ⟨w.heap.size, 0, none⟩))) (w.alloc (.cells ⟨cs'⟩ e))
  | .set t m => ∀ cs, m = some cs → ∃ old c w' cs' e, lookL fr.l t = some old ∧ ψ t = some c ∧ (execOp a.eval o).run P w = .ok .skip w' ∧ w'.heap[c]? = some (.cells cs' e (0, 0)) ∧ VsRel φ cs cs'.toList ∧ oneCs cs = true ∧
      (∀ i, i ≠ c → w'.heap[i]? = w.heap[i]?) ∧ w'.heap.size = w.heap.size ∧ w'.os = w.os ∧ w'.tape = w.tape ∧ w'.output = w.output
  | .pn m => ∀ b r s', m = some (b, r, s') → DoesX P (execOp a.eval o) w (fun u w' => b = true ∧ ∃ φ', Step φ s w φ' s' w' ∧ VRel φ' r u) (fun u w' => b = false ∧ ∃ φ', Step φ s w φ' s' w' ∧ VRel φ' r u)
  | .bad => True

end Go.Sim
set_option linter.unusedSimpArgs false
set_option linter.unusedVariables false
namespace Go.Sim
open Go.RowKit (Below)

section
variable {P : Program} {C : Ctx} {an : An} {φ : Phi} {ψ : Nat → Option Nat} {fr : Fr} {s : St} {a : Act} {w : World} {og : Option (Nat × Bool)} {ops : Array Oper}
  {dst : Option Tmp} {ty : TypeId} {pos : String} {after : Array Edge} {guard : Option (Nat × Bool)}

theorem run_v {m : Sem Value} {u : Value} {w w' : World} (h : m.run P w = .ok u w') : (do pure (Next.value (← m)) : Sem Next).run P w = .ok (.value u) w' := by
  simp only [Sem.run_bind, h, Result.andThen_ok, Sem.run_pure]

theorem run_u {m : Sem Unit} {w w' : World} (h : m.run P w = .ok () w') : (do m; pure Next.skip : Sem Next).run P w = .ok .skip w' := by
  simp only [Sem.run_bind, h, Result.andThen_ok, Sem.run_pure]

theorem pik_sound {c c' x x' y y' r : Value} (hc : VRel φ c c') (hx : VRel φ x x') (hy : VRel φ y y') (h : pik c x y = some r) :
    ∃ r', (do pure (Next.value (if ← asBool c' then x' else y')) : Sem Next).run P w = .ok (.value r') w ∧ VRel φ r r' := by
  cases hc <;> simp only [pik, reduceCtorEq] at h
  rename_i b
  cases b <;> simp only [pik, Option.some.injEq] at h <;> subst h
  · exact ⟨y', by simp [asBool], hy⟩
  · exact ⟨x', by simp [asBool], hx⟩

theorem cvi_sound {src dt : TypeId} {d : TypeDesc} {k : IntKind} {v v' r : Value} (hs : P.underlying src = some d) (hd : P.underlying dt = some (.int k)) (hv : VRel φ v v') (h : cvi k v = some r) :
    plainV r = true ∧ (convert src dt v').run P w = .ok r w := by
  cases hv <;> simp only [cvi, reduceCtorEq, Option.some.injEq] at h
  subst h
  refine ⟨rfl, ?_⟩
  simp [convert, run_underlying hs, run_underlying hd, Conv.intToInt]

theorem cvs_sound {src dt : TypeId} {v v' r : Value} (hs : P.underlying src = some .string) (hd : P.underlying dt = some .string) (hv : VRel φ v v') (h : cvs v = some r) :
    plainV r = true ∧ (convert src dt v').run P w = .ok r w := by
  cases hv <;> simp only [cvs, reduceCtorEq, Option.some.injEq] at h
  subst h
  refine ⟨rfl, ?_⟩
  simp [convert, run_underlying hs, run_underlying hd]

theorem cvl_sound {s s' : St} {src dt e e2 : TypeId} {v v' r : Value} (h : Rel φ s w) (hs : P.underlying src = some (.slice e2)) (hd : P.underlying dt = some (.slice e)) (he : P.underlying e = some (.int .u8)) (hsd : src = dt) (hv : VRel φ v v') (hx : cvl s v = some (r, s')) :
    ∃ w', (convert src dt v').run P w = .ok v' w' ∧ VRel φ r v' ∧ Step φ s w φ s' w' := by
  cases hv with
  | slice hl h1 h2 h3 h4 =>
    rename_i b i len ec c a l
    simp only [cvl] at hx
    split at hx
    · rename_i sz rows hg
      split at hx
      · simp at hx
      · rename_i hlen
        simp only [Option.some.injEq, Prod.mk.injEq] at hx
        obtain ⟨rfl, rfl⟩ := hx
        have ha := h3 (by omega)
        have hB := h.at hg hl
        obtain ⟨k1, k2, cs, et, fz, hh, k3, k4, k5⟩ := hB
        have hfz := k5 rfl
        subst hfz
        subst ha
        have hsh : w.shape? l.blk = some (et, cs.size) := by simp [World.shape?, hh]
        refine ⟨w.freeze ⟨l.blk, cs.size, none⟩ 1, ?_, .slice hl h1 h2 h3 h4, ?_⟩
        · subst hsd
          have hee : e2 = e := by simpa using hs.symm.trans hd
          subst hee
          simp [convert, run_underlying hs, run_underlying he, markStringish, hsh]
        · have hlt : l.blk < w.heap.size := (Array.getElem?_eq_some_iff.1 hh).1
          refine put_step h hg rfl hl ?_ (fun c hc => ?_) ?_ rfl rfl rfl
          · refine ⟨k1, k2, cs, et, (cs.size, cs.size + 1), ?_, k3, k4, fun e => by cases e⟩
            simp [World.freeze, Array.getElem?_modify, hh]
          · simp [World.freeze, Array.getElem?_modify, Ne.symm hc]
          · simp [World.freeze]
    · simp at hx
  | _ => simp [cvl] at hx

theorem spec_v {o : Oper} {m : Option Value} (h : ∀ v, m = some v → ∃ u, Gives P o a w u ∧ VRel φ v u) : OpSpec P φ ψ fr s o a w (.v m) :=
  fun v hv => .inl (h v hv)

theorem spec_plain {o : Oper} {m : Option Value} (h : ∀ v, m = some v → plainV v = true ∧ Gives P o a w v) : OpSpec P φ ψ fr s o a w (.v m) :=
  fun v hv => .inl ⟨v, (h v hv).2, VRel.of_plain φ (h v hv).1⟩

theorem op_move (he : EnvRel φ ψ fr a) (hg : GOk a og) (x : Operand) (op : Op) (hop : op = .move x ∨ op = .assign x) : OpSpec P φ ψ fr s ⟨dst, op, ty, pos, after, guard⟩ a w (opR std P C an fr s og ⟨dst, op, ty, pos, after, guard⟩) := by
  have hgv : Gives P ⟨dst, op, ty, pos, after, guard⟩ a w (a.eval x) := by rcases hop with rfl | rfl <;> rfl
  have e : opR std P C an fr s og ⟨dst, op, ty, pos, after, guard⟩ = match evE fr og x with
    | some (.val v) => .k v
    | some (.lp t j) => .p t j
    | none => .bad := by rcases hop with rfl | rfl <;> rfl
  rw [e]
  cases hx : evE fr og x with
  | none => exact trivial
  | some q =>
    have := evE_sound he hg hx
    cases q with
    | val v => exact ⟨_, hgv, this⟩
    | lp t j =>
      obtain ⟨c, h1, h2⟩ := this
      exact ⟨c, h1, h2 ▸ hgv⟩

theorem op_pick (he : EnvRel φ ψ fr a) (c x y : Operand) : OpSpec P φ ψ fr s ⟨dst, .pick c x y, ty, pos, after, guard⟩ a w (opR std P C an fr s og ⟨dst, .pick c x y, ty, pos, after, guard⟩) := by
  simp only [opR]
  split
  · rename_i c0 x0 y0 h1 h2 h3
    refine spec_v fun v hv => ?_
    obtain ⟨r', h4, h5⟩ := pik_sound (P := P) (w := w) (evV_sound he h1) (evV_sound he h2) (evV_sound he h3) hv
    exact ⟨r', h4, h5⟩
  · exact trivial

theorem op_alloc (hr : Rel φ s w) (t : TypeId) : OpSpec P φ ψ fr s ⟨dst, .alloc t, ty, pos, after, guard⟩ a w (opR std P C an fr s og ⟨dst, .alloc t, ty, pos, after, guard⟩) := by
  simp only [opR]
  split
  · rename_i z hz
    split
    · rename_i hp
      have hrun : (execOp a.eval ⟨dst, .alloc t, ty, pos, after, guard⟩).run P w = .ok (.value (.pointer (some ⟨w.heap.size, 0, none⟩))) (w.alloc (.cells ⟨cellsL z⟩ t)) := run_v (alloc_run w hz)
      cases dst with
      | none => exact trivial
      | some d =>
        simp only
        split
        · intro cs hcs
          obtain ⟨h1, h2, h3⟩ := bx_rel (VRel.of_plain φ hp) hcs
          exact ⟨rfl, _, t, h1, h2, hrun⟩
        · intro r s' hx
          obtain ⟨φ', h1, h2⟩ := alv_sound w t hr (VRel.of_plain φ hp) hx
          exact does_value hrun ⟨φ', h2, h1⟩
    · exact trivial
  · exact trivial

theorem op_box (he : EnvRel φ ψ fr a) (hr : Rel φ s w) (t : TypeId) (x : Operand) : OpSpec P φ ψ fr s ⟨dst, .box t x, ty, pos, after, guard⟩ a w (opR std P C an fr s og ⟨dst, .box t x, ty, pos, after, guard⟩) := by
  simp only [opR]
  split
  · rename_i v hv
    have hrun : (execOp a.eval ⟨dst, .box t x, ty, pos, after, guard⟩).run P w = .ok (.value (.pointer (some ⟨w.heap.size, 0, none⟩))) (w.alloc (.cells ⟨cellsL (a.eval x)⟩ t)) := run_v (box_run w t _)
    have hvr := evV_sound he hv
    cases dst with
    | none => exact trivial
    | some d =>
      simp only
      split
      · intro cs hcs
        obtain ⟨h1, h2, h3⟩ := bx_rel hvr hcs
        exact ⟨rfl, _, t, h1, h2, hrun⟩
      · intro r s' hx
        obtain ⟨φ', h1, h2⟩ := alv_sound w t hr hvr hx
        exact does_value hrun ⟨φ', h2, h1⟩
  · exact trivial

theorem op_load (he : EnvRel φ ψ fr a) (hg : GOk a og) (t : TypeId) (x : Operand) (hl : ∀ t' j, evE fr og x = some (.lp t' j) → LocRel φ ψ fr w) (hr : ∀ v, evE fr og x = some (.val v) → Rel φ s w) :
    OpSpec P φ ψ fr s ⟨dst, .load t x, ty, pos, after, guard⟩ a w (opR std P C an fr s og ⟨dst, .load t x, ty, pos, after, guard⟩) := by
  simp only [opR]
  split
  · rename_i n v h1 h2 h3
    refine spec_v fun u hu => ?_
    obtain ⟨x', h4, h5⟩ := load_agg w (hr v h3) h1 h2 (evE_sound he hg h3) hu
    exact ⟨x', run_v h4, h5⟩
  · rename_i n v h1 h2 h3
    refine spec_v fun u hu => ?_
    obtain ⟨x', h4, h5⟩ := load_one w (hr v h3) h1 (evE_sound he hg h3) hu
    exact ⟨x', run_v h4, h5⟩
  · rename_i agg n t' j h1 h2 h3
    obtain ⟨c, g1, g2⟩ := evE_sound he hg h3
    split
    · rename_i cs hcs
      obtain ⟨c', f1, f2⟩ := hl t' j h3 t' cs hcs
      rw [g1] at f1
      simp only [Option.some.injEq] at f1
      subst f1
      cases agg with
      | true =>
        refine spec_v fun u hu => ?_
        obtain ⟨x', h4, h5⟩ := load_agg_l w f2 h1 h2 hu
        exact ⟨x', run_v (by rw [g2]; exact h4), h5⟩
      | false =>
        refine spec_v fun u hu => ?_
        obtain ⟨x', h4, h5⟩ := load_one_l w f2 h1 hu
        exact ⟨x', run_v (by rw [g2]; exact h4), h5⟩
    · exact trivial
  · exact trivial

theorem op_store (he : EnvRel φ ψ fr a) (hg : GOk a og) (t : TypeId) (x y : Operand) (hl : LocRel φ ψ fr w) (hr : Rel φ s w) :
    OpSpec P φ ψ fr s ⟨dst, .store t x y, ty, pos, after, guard⟩ a w (opR std P C an fr s og ⟨dst, .store t x y, ty, pos, after, guard⟩) := by
  simp only [opR]
  split
  · rename_i n p v h1 h2 h3
    intro s' hs
    obtain ⟨w', g1, g2⟩ := store_sound w hr h1 (evE_sound he hg h2) (evV_sound he h3) hs
    exact does_skip (run_u g1) ⟨rfl, g2⟩
  · rename_i n t' j v h1 h2 h3
    obtain ⟨c, g1, g2⟩ := evE_sound he hg h2
    split
    · rename_i cs hcs
      obtain ⟨c', f1, f2⟩ := hl t' cs hcs
      rw [g1] at f1
      simp only [Option.some.injEq] at f1
      subst f1
      intro cs2 hx
      obtain ⟨w', cs', e, q1, q2, q3, q4, q5⟩ := store_l w f2 h1 (evV_sound he h3) hx
      exact ⟨cs, c, w', cs', e, hcs, g1, run_u (by rw [g2]; exact q1), q2, q3, q4, q5⟩
    · exact trivial
  · exact trivial

theorem op_nilCheck (he : EnvRel φ ψ fr a) (hg : GOk a og) (x : Operand) : OpSpec P φ ψ fr s ⟨dst, .nilCheck x, ty, pos, after, guard⟩ a w (opR std P C an fr s og ⟨dst, .nilCheck x, ty, pos, after, guard⟩) := by
  simp only [opR]
  split
  · rename_i v h1
    have hv : VRel φ v (a.eval x) := evE_sound he hg h1
    refine spec_v fun u hu => ?_
    refine ⟨a.eval x, ?_, ?_⟩
    · unfold Gives execOp
      simp only
      generalize a.eval x = y at hv
      cases hv <;> simp only [nck, reduceCtorEq] at hu
      · rfl
      · rename_i fn _ _ _ _ _ _
        cases fn <;> simp only [nck, reduceCtorEq] at hu
        rfl
    · have : u = v := by
        unfold nck at hu
        split at hu <;> simp_all
      rw [this]; exact hv
  · rename_i t j h1
    obtain ⟨c, g1, g2⟩ := evE_sound he hg h1
    exact ⟨c, g1, by unfold Gives execOp; simp only [g2]; rfl⟩
  · exact trivial

theorem op_binOp (he : EnvRel φ ψ fr a) (b : BinOp) (t : TypeId) (x y : Operand) (yt : TypeId) : OpSpec P φ ψ fr s ⟨dst, .binOp b t x y yt, ty, pos, after, guard⟩ a w (opR std P C an fr s og ⟨dst, .binOp b t x y yt, ty, pos, after, guard⟩) := by
  have hrun : ∀ {r : Value}, (eqGuard b t x y (a.eval x) (a.eval y)).run P w = .ok () w → (binOp b t (a.eval x) (a.eval y)).run P w = .ok r w → Gives P ⟨dst, .binOp b t x y yt, ty, pos, after, guard⟩ a w r := by
    intro r h1 h2
    exact run_v (m := do eqGuard b t x y (a.eval x) (a.eval y); binOp b t (a.eval x) (a.eval y)) (by simp only [Sem.run_bind, h1, Result.andThen_ok, h2])
  simp only [opR]
  split
  · rename_i u v h1 h2
    have e1 := evV_sound he h1
    have e2 := evV_sound he h2
    split
    · split
      · rename_i ks agg hk
        refine spec_v fun r hr => ?_
        obtain ⟨b, rfl, h3, h4⟩ := eqb_sound w hk e1 e2 hr x y
        exact ⟨_, hrun (by simpa using h3) (by simpa using h4), .bool b⟩
      · split
        · rename_i hc
          refine spec_v fun r hr => ?_
          obtain ⟨b, rfl, h3, h4⟩ := eqI_sound w hc e1 e2 hr
          exact ⟨_, hrun (by simpa using h3) (by simpa using h4), .bool b⟩
        · exact trivial
    · split
      · rename_i ks agg hk
        refine spec_v fun r hr => ?_
        obtain ⟨b, rfl, h3, h4⟩ := eqb_sound w hk e1 e2 hr x y
        exact ⟨_, hrun (by simpa using h3) (by simpa using h4), .bool b⟩
      · split
        · rename_i hc
          refine spec_v fun r hr => ?_
          obtain ⟨b, rfl, h3, h4⟩ := eqI_sound w hc e1 e2 hr
          exact ⟨_, hrun (by simpa using h3) (by simpa using h4), .bool b⟩
        · exact trivial
    · rename_i n1 n2
      refine spec_plain fun r hr => ?_
      obtain ⟨h3, h4, h5⟩ := bin_sound w (t := t) n1 n2 e1 e2 hr x y
      exact ⟨h3, hrun h4 h5⟩
  · exact trivial

theorem op_unOp (he : EnvRel φ ψ fr a) (b : UnOp) (t : TypeId) (x : Operand) : OpSpec P φ ψ fr s ⟨dst, .unOp b t x, ty, pos, after, guard⟩ a w (opR std P C an fr s og ⟨dst, .unOp b t x, ty, pos, after, guard⟩) := by
  simp only [opR]
  split
  · rename_i v h1
    refine spec_plain fun r hr => ?_
    obtain ⟨h3, h4⟩ := un_sound (P := P) w (evV_sound he h1) hr
    exact ⟨h3, run_v h4⟩
  · exact trivial

theorem op_convert (he : EnvRel φ ψ fr a) (src dt : TypeId) (x : Operand) (hr : ∀ e, P.underlying src = some (.slice e) → Rel φ s w) :
    OpSpec P φ ψ fr s ⟨dst, .convert src dt x, ty, pos, after, guard⟩ a w (opR std P C an fr s og ⟨dst, .convert src dt x, ty, pos, after, guard⟩) := by
  simp only [opR]
  split
  · rename_i k k' v h1 h2 h3
    refine spec_plain fun r hr => ?_
    obtain ⟨h4, h5⟩ := cvi_sound (w := w) h1 h2 (evV_sound he h3) hr
    exact ⟨h4, run_v h5⟩
  · rename_i v h1 h2 h3
    refine spec_plain fun r hr => ?_
    obtain ⟨h4, h5⟩ := cvs_sound (w := w) h1 h2 (evV_sound he h3) hr
    exact ⟨h4, run_v h5⟩
  · rename_i e v h1 h2 h3
    split
    · rename_i h4
      refine spec_plain fun r hx => ?_
      obtain ⟨h5, h6⟩ := b2s_sound w h1 h4 h2 (hr e h1) (evV_sound he h3) hx
      exact ⟨h5, run_v h6⟩
    · exact trivial
  · rename_i e2 e v h1 h2 h3
    split
    · rename_i hsd
      split
      · rename_i h4
        intro r s' hx
        obtain ⟨w', g1, g2, g3⟩ := cvl_sound (hr e2 h1) h1 h2 h4 hsd (evV_sound he h3) hx
        exact does_value (run_v g1) ⟨φ, g3, g2⟩
      · exact trivial
    · exact trivial
  · exact trivial

theorem op_iface (he : EnvRel φ ψ fr a) (t : TypeId) (x : Operand) : OpSpec P φ ψ fr s ⟨dst, .makeInterface t x, ty, pos, after, guard⟩ a w (opR std P C an fr s og ⟨dst, .makeInterface t x, ty, pos, after, guard⟩) := by
  simp only [opR]
  split
  · exact trivial
  · rename_i d v hn h1 h2
    exact ⟨_, run_v (iface_run w h1 fun m hm => hn m hm), .iface t (evV_sound he h2)⟩
  · exact trivial

theorem map_lists (f : Operand → Value) (l : Array Operand) : l.map f = ⟨l.toList.map f⟩ := by
  apply toArray_of_toList; simp

theorem op_func (he : EnvRel φ ψ fr a) (fn : Fn) (f c : Array Operand) : OpSpec P φ ψ fr s ⟨dst, .makeFunc fn f c, ty, pos, after, guard⟩ a w (opR std P C an fr s og ⟨dst, .makeFunc fn f c, ty, pos, after, guard⟩) := by
  simp only [opR]
  split
  · rename_i g f' c' h1 h2
    refine ⟨.func (.func g) ⟨f.toList.map a.eval⟩ ⟨c.toList.map a.eval⟩, ?_, .func _ (evVs_sound he h1) (evVs_sound he h2)⟩
    rw [← map_lists, ← map_lists]
    exact run_v (m := Instr.makeFunc (.func g) (f.map a.eval) (c.map a.eval)) rfl
  · exact trivial

theorem pairs_map {g : Nat × Operand → Nat × Value} (f : Operand → Value) (hg : ∀ q, g q = (q.1, f q.2)) (l : Array (Nat × Operand)) : l.map g = (l.toList.map fun q => (q.1, f q.2)).toArray := by
  apply toArray_of_toList
  rw [Array.toList_map, funext hg]

theorem op_build (he : EnvRel φ ψ fr a) (t : TypeId) (ps : Array (Nat × Operand)) : OpSpec P φ ψ fr s ⟨dst, .build t ps, ty, pos, after, guard⟩ a w (opR std P C an fr s og ⟨dst, .build t ps, ty, pos, after, guard⟩) := by
  simp only [opR]
  split
  · rename_i fs z qs h1 h2 h3
    obtain ⟨g1, g2⟩ := evPs_sound he h3
    split
    · rename_i hp
      split
      · rename_i mf hm
        split
        · rename_i hc
          simp only [Bool.and_eq_true] at hc
          refine spec_v fun r hr => ?_
          obtain ⟨r', h4, h5⟩ := build_struct w h1 h2 hp hc.1 hc.2 hm g1 g2 hr
          refine ⟨r', run_v (m := Instr.build t (ps.map _)) ?_, h5⟩
          rw [pairs_map a.eval fun _ => rfl]; exact h4
        · exact trivial
      · exact trivial
    · exact trivial
  · rename_i m e z qs h1 h2 h3
    obtain ⟨g1, g2⟩ := evPs_sound he h3
    split
    · rename_i hc
      simp only [Bool.and_eq_true] at hc
      split
      · rename_i n hn
        refine spec_v fun r hr => ?_
        obtain ⟨r', h4, h5⟩ := build_array w h1 h2 hc.1 hc.2 hn g1 g2 hr
        refine ⟨r', run_v (m := Instr.build t (ps.map _)) ?_, h5⟩
        rw [pairs_map a.eval fun _ => rfl]; exact h4
      · exact trivial
    · exact trivial
  · exact trivial

theorem op_buildSlice (he : EnvRel φ ψ fr a) (hr : Rel φ s w) (t : TypeId) (len : Nat) (ps : Array (Nat × Operand)) :
    OpSpec P φ ψ fr s ⟨dst, .buildSlice t len ps, ty, pos, after, guard⟩ a w (opR std P C an fr s og ⟨dst, .buildSlice t len ps, ty, pos, after, guard⟩) := by
  simp only [opR]
  split
  · rename_i e qs h1 h3
    obtain ⟨g1, g2⟩ := evPs_sound he h3
    split
    · rename_i z n h4 h5
      split
      · rename_i hc
        simp only [Bool.and_eq_true, decide_eq_true_eq] at hc
        obtain ⟨⟨⟨⟨c1, c2⟩, c3⟩, c4⟩, c5⟩ := hc
        intro r s' hx
        obtain ⟨φ', r', w', q1, q2, q3⟩ := buildSlice_sound w hr h1 h4 h5 c1 c2 c3 c4 c5 g1 g2 hx
        refine does_value (u := r') (w' := w') (run_v (m := Instr.buildSlice t len (ps.map _)) ?_) ⟨φ', q3, q2⟩
        rw [pairs_map a.eval fun _ => rfl]; exact q1
      · exact trivial
    · exact trivial
  · exact trivial

theorem op_makeSlice (he : EnvRel φ ψ fr a) (hr : Rel φ s w) (t : TypeId) (l c : Operand) :
    OpSpec P φ ψ fr s ⟨dst, .makeSlice t l c, ty, pos, after, guard⟩ a w (opR std P C an fr s og ⟨dst, .makeSlice t l c, ty, pos, after, guard⟩) := by
  simp only [opR]
  split
  · rename_i e l' c' h1 h2 h3
    split
    · rename_i z n b h4 h5 h6
      split
      · rename_i hc
        simp only [Bool.and_eq_true, decide_eq_true_eq] at hc
        obtain ⟨⟨⟨c1, c2⟩, c3⟩, c4⟩ := hc
        have hi : ∃ inf, P.info? e = some inf ∧ inf.zero = some z ∧ inf.size = n ∧ inf.bytes = b := by
          unfold zeroT at h4; unfold sizeT at h5; unfold bytesT at h6
          cases hinf : P.info? e with
          | none => simp [hinf] at h4
          | some inf => simp [hinf] at h4 h5 h6; exact ⟨inf, rfl, h4, h5, h6⟩
        obtain ⟨inf, i1, i2, i3, rfl⟩ := hi
        intro r s' hx
        obtain ⟨φ', r', w', q1, q2, q3⟩ := mks_sound w hr h1 i1 i2 i3 c1 c2 c3 c4 (evV_sound he h2) (evV_sound he h3) hx
        exact does_value (u := r') (w' := w') (run_v q1) ⟨φ', q3, q2⟩
      · exact trivial
    · exact trivial
  · exact trivial

theorem op_slice (he : EnvRel φ ψ fr a) (hr : Rel φ s w) (t : TypeId) (x : Operand) (lo hi mx : Option Operand) :
    OpSpec P φ ψ fr s ⟨dst, .slice t x lo hi mx, ty, pos, after, guard⟩ a w (opR std P C an fr s og ⟨dst, .slice t x lo hi mx, ty, pos, after, guard⟩) := by
  simp only [opR]
  split
  · rename_i v lo' hi' h1 h2 h3 h4 h5
    refine spec_plain fun r hx => ?_
    obtain ⟨q1, q2⟩ := slS_sound w h1 (evV_sound he h2) (evO_sound he h3) (evO_sound he h4) hx
    have hmx : mx.map a.eval = none := by
      have := evO_sound he h5
      generalize mx.map a.eval = y at this
      cases this
      rfl
    exact ⟨q1, run_v (m := Instr.sliceAt t (a.eval x) (lo.map a.eval) (hi.map a.eval) (mx.map a.eval)) (by rw [hmx]; exact q2)⟩
  · rename_i e v lo' hi' mx' h1 h2 h3 h4 h5
    split
    · rename_i n h6
      split
      · exact trivial
      · rename_i hm
        refine spec_v fun r hx => ?_
        obtain ⟨r', q1, q2⟩ := slc_sound w hr h1 h6 (evV_sound he h2) (evO_sound he h3) (evO_sound he h4) (evO_sound he h5) (fun h7 h8 => hm (by
          subst h8
          cases mx' with
          | none => exact absurd rfl h7
          | some _ => rfl)) hx
        exact ⟨r', run_v q1, q2⟩
    · exact trivial
  · exact trivial

theorem op_fieldAddr (he : EnvRel φ ψ fr a) (hg : GOk a og) (t : TypeId) (x : Operand) (j : Nat) :
    OpSpec P φ ψ fr s ⟨dst, .fieldAddr t x j, ty, pos, after, guard⟩ a w (opR std P C an fr s og ⟨dst, .fieldAddr t x j, ty, pos, after, guard⟩) := by
  simp only [opR]
  split
  · rename_i fs h1
    split
    · rename_i f h2
      split
      · rename_i n h3
        split
        · exact trivial
        · rename_i hn
          split
          · rename_i v h4
            refine spec_v fun r hx => ?_
            obtain ⟨r', q1, q2⟩ := fld_sound w h1 h2 h3 hn (evE_sound he hg h4) hx
            exact ⟨r', run_v q1, q2⟩
          · rename_i t' k h4
            obtain ⟨c, g1, g2⟩ := evE_sound he hg h4
            exact ⟨c, g1, run_v (by rw [g2]; exact fld_lp w h1 h2 h3 hn)⟩
          · exact trivial
      · exact trivial
    · exact trivial
  · exact trivial

theorem op_field (he : EnvRel φ ψ fr a) (t : TypeId) (x : Operand) (j : Nat) :
    OpSpec P φ ψ fr s ⟨dst, .field t x j, ty, pos, after, guard⟩ a w (opR std P C an fr s og ⟨dst, .field t x j, ty, pos, after, guard⟩) := by
  simp only [opR]
  split
  · rename_i fs h1
    split
    · rename_i f v h2 h3
      split
      · rename_i agg n h4 h5
        refine spec_v fun r hx => ?_
        obtain ⟨r', q1, q2⟩ := prt_sound w h1 h2 h5 h4 (evV_sound he h3) hx
        exact ⟨r', run_v q1, q2⟩
      · exact trivial
    · exact trivial
  · exact trivial

theorem op_indexAddr (he : EnvRel φ ψ fr a) (hg : GOk a og) (t : TypeId) (x i : Operand) (hr : ∀ e, P.underlying t = some (.slice e) → Rel φ s w) :
    OpSpec P φ ψ fr s ⟨dst, .indexAddr t x i, ty, pos, after, guard⟩ a w (opR std P C an fr s og ⟨dst, .indexAddr t x i, ty, pos, after, guard⟩) := by
  simp only [opR]
  split
  · rename_i e v i' h1 h2 h3
    split
    · rename_i n h4
      refine spec_v fun r hx => ?_
      have h5 : VRel φ v (a.eval x) := evE_sound he (og := none) (fun _ _ e => by simp at e) h2
      obtain ⟨r', q1, q2⟩ := idx_sound w (hr e h1) h1 h4 h5 (evV_sound he h3) hx
      exact ⟨r', run_v q1, q2⟩
    · exact trivial
  · rename_i n e i' h1 h3
    split
    · rename_i sz v h4 h5
      refine spec_v fun r hx => ?_
      have h6 : VRel φ v (a.eval x) := evE_sound he hg h5
      obtain ⟨r', q1, q2⟩ := idxA_sound w h1 h4 h6 (evV_sound he h3) hx
      exact ⟨r', run_v q1, q2⟩
    · rename_i sz t' j h4 h5
      split
      · rename_i kk k
        split
        · rename_i hk
          obtain ⟨c, g1, g2⟩ := evE_sound he hg h5
          have h7 := evV_sound he h3
          refine ⟨c, g1, run_v ?_⟩
          rw [g2]
          generalize a.eval i = u at h7
          cases h7
          rw [idxA_run w h1 h4 hk]
          simp [Addr.add]
        · exact trivial
      · exact trivial
    · exact trivial
  · exact trivial

theorem op_index (he : EnvRel φ ψ fr a) (t : TypeId) (x i : Operand) :
    OpSpec P φ ψ fr s ⟨dst, .index t x i, ty, pos, after, guard⟩ a w (opR std P C an fr s og ⟨dst, .index t x i, ty, pos, after, guard⟩) := by
  simp only [opR]
  split
  · rename_i v i' h1 h2 h3
    refine spec_plain fun r hx => ?_
    obtain ⟨q1, q2⟩ := idxS_sound w h1 (evV_sound he h2) (evV_sound he h3) hx
    exact ⟨q1, run_v q2⟩
  · exact trivial

theorem op_lookup (he : EnvRel φ ψ fr a) (hr : Rel φ s w) (t : TypeId) (x k : Operand) (ok : Bool) :
    OpSpec P φ ψ fr s ⟨dst, .lookup t x k ok, ty, pos, after, guard⟩ a w (opR std P C an fr s og ⟨dst, .lookup t x k ok, ty, pos, after, guard⟩) := by
  simp only [opR]
  split
  · rename_i kt e m k' h1 h2 h3
    split
    · rename_i z ks agg h4 h5 h6
      split
      · rename_i hc
        simp only [Bool.and_eq_true] at hc
        refine spec_v fun r hx => ?_
        obtain ⟨r', q1, q2⟩ := lkp_sound w hr h1 h5 h6 h4 hc.1 (evV_sound he h2) (evV_sound he h3) hx
        exact ⟨r', run_v q1, q2⟩
      · exact trivial
    · exact trivial
  · exact trivial

theorem op_upm (he : EnvRel φ ψ fr a) (hr : Rel φ s w) (t : TypeId) (x k y : Operand) (op : Op) (hop : op = .mapUpdate t x k y ∨ op = .insert t x k y) :
    OpSpec P φ ψ fr s ⟨dst, op, ty, pos, after, guard⟩ a w (opR std P C an fr s og ⟨dst, op, ty, pos, after, guard⟩) := by
  have hrun : ∀ {w' : World}, (Instr.mapUpdate t (a.eval x) (a.eval k) (a.eval y)).run P w = .ok () w' → (execOp a.eval ⟨dst, op, ty, pos, after, guard⟩).run P w = .ok .skip w' := by
    intro w' h
    rcases hop with rfl | rfl <;> exact run_u h
  have e : opR std P C an fr s og ⟨dst, op, ty, pos, after, guard⟩ = match P.underlying t, evV fr x, evV fr k, evV fr y with
    | some (.map kt _), some m, some k, some v => (match kindsT P 9 kt, aggT P kt with
        | some ks, some agg => if keyKinds ks then .u (upm s ks agg m k v) else .bad
        | _, _ => .bad)
    | _, _, _, _ => .bad := by rcases hop with rfl | rfl <;> rfl
  rw [e]
  split
  · rename_i kt e m k' v h1 h2 h3 h4
    split
    · rename_i ks agg h5 h6
      split
      · rename_i hc
        intro s' hx
        obtain ⟨w', q1, q2⟩ := upm_sound w hr h1 h5 h6 hc (evV_sound he h2) (evV_sound he h3) (evV_sound he h4) hx
        exact does_skip (hrun q1) ⟨rfl, q2⟩
      · exact trivial
    · exact trivial
  · exact trivial

theorem op_makeMap (hr : Rel φ s w) (t : TypeId) (o : Option Operand) :
    OpSpec P φ ψ fr s ⟨dst, .makeMap t o, ty, pos, after, guard⟩ a w (opR std P C an fr s og ⟨dst, .makeMap t o, ty, pos, after, guard⟩) := by
  cases o with
  | some _ => exact trivial
  | none =>
    intro r s' hx
    obtain ⟨φ', q1, q2, q3⟩ := mkm_sound (P := P) w t hr hx
    exact does_value (run_v q1) ⟨φ', q3, q2⟩

theorem tas_sound {xt t : TypeId} {ok : Bool} {z x x' r : Value} (hz : zeroT P t = some z) (hp : plainV z = true) (hx : VRel φ x x') (h : tas P t ok z x = some r) : ∃ r', (Instr.typeAssert x' xt t ok).run P w = .ok r' w ∧ VRel φ r r' := by
  have hzr : VRel φ (.tuple ⟨[z, .bool false]⟩) (.tuple ⟨[z, .bool false]⟩) := .tuple (.cons (VRel.of_plain φ hp) (.cons (.bool _) .nil))
  unfold tas at h
  split at h
  · rename_i hu
    cases hx
    split at h
    · rename_i hok
      simp only [Option.some.injEq] at h; subst h
      exact ⟨_, by simp [Instr.typeAssert, run_underlying hu, hok, run_zeroValue w hz], hzr⟩
    · simp at h
  · rename_i want a v hu
    cases hx with
    | iface _ hv =>
      split at h
      · rename_i inf hi
        have hti : (typeInfo a).run P w = .ok inf w := by simp [typeInfo, hi]
        split at h
        · rename_i hm
          simp only [Option.some.injEq] at h; subst h
          refine ⟨_, by simp [Instr.typeAssert, run_underlying hu, hti, hm]; rfl, ?_⟩
          cases ok
          · exact .iface _ hv
          · exact .tuple (.cons (.iface _ hv) (.cons (.bool _) .nil))
        · rename_i m hm
          split at h
          · rename_i hok
            simp only [Option.some.injEq] at h; subst h
            exact ⟨_, by simp [Instr.typeAssert, run_underlying hu, hti, hm, hok, run_zeroValue w hz], hzr⟩
          · simp at h
      · simp at h
  · rename_i d hne hu
    cases hx
    split at h
    · rename_i hok
      simp only [Option.some.injEq] at h; subst h
      refine ⟨_, ?_, hzr⟩
      cases d <;> first
        | exact absurd rfl (hne _)
        | simp [Instr.typeAssert, run_underlying hu, hok, run_zeroValue w hz]
    · simp at h
  · rename_i d a v hne hu
    cases hx with
    | iface _ hv =>
      rename_i v'
      split at h
      · rename_i hat
        simp only [Option.some.injEq] at h; subst h
        refine ⟨if ok then .tuple ⟨[v', .bool true]⟩ else v', ?_, ?_⟩
        rotate_left
        · cases ok
          · exact hv
          · exact .tuple (.cons hv (.cons (.bool _) .nil))
        · cases d <;> first
            | exact absurd rfl (hne _)
            | simp [Instr.typeAssert, run_underlying hu, hat]
      · rename_i hat
        split at h
        · rename_i hok
          simp only [Option.some.injEq] at h; subst h
          refine ⟨_, ?_, hzr⟩
          cases d <;> first
            | exact absurd rfl (hne _)
            | simp [Instr.typeAssert, run_underlying hu, hok, hat, run_zeroValue w hz]
        · simp at h
  · simp at h

theorem op_typeAssert (he : EnvRel φ ψ fr a) (x : Operand) (xt t : TypeId) (ok : Bool) : OpSpec P φ ψ fr s ⟨dst, .typeAssert x xt t ok, ty, pos, after, guard⟩ a w (opR std P C an fr s og ⟨dst, .typeAssert x xt t ok, ty, pos, after, guard⟩) := by
  simp only [opR]
  split
  · rename_i v z h1 h2
    split
    · rename_i hp
      refine spec_v fun r hr => ?_
      obtain ⟨r', q1, q2⟩ := tas_sound (w := w) h2 hp (evV_sound he h1) hr
      exact ⟨r', run_v q1, q2⟩
    · exact trivial
  · exact trivial

theorem op_extract (he : EnvRel φ ψ fr a) (x : Operand) (i : Nat) :
    OpSpec P φ ψ fr s ⟨dst, .extract x i, ty, pos, after, guard⟩ a w (opR std P C an fr s og ⟨dst, .extract x i, ty, pos, after, guard⟩) := by
  simp only [opR]
  split
  · rename_i v h1
    refine spec_v fun r hx => ?_
    obtain ⟨r', q1, q2⟩ := xtr_sound (P := P) w (evV_sound he h1) hx
    exact ⟨r', run_v q1, q2⟩
  · exact trivial

end
end Go.Sim
set_option linter.unusedSimpArgs false
set_option linter.unusedVariables false
namespace Go.Sim
open Go.RowKit (Below)

section
variable {P : Program} {C : Ctx} {an : An} {φ : Phi} {ψ : Nat → Option Nat} {fr : Fr} {s : St} {a : Act} {w : World} {og : Option (Nat × Bool)} {ops : Array Oper}
  {dst : Option Tmp} {ty : TypeId} {pos : String} {after : Array Edge} {guard : Option (Nat × Bool)}

theorem run_call_func {c : Call} {f : FuncId} (h : c.callee = .value (.func f)) (hf : callOk P f = true) :
    (execOp a.eval ⟨dst, .call c, ty, pos, after, guard⟩).run P w = .ok (.enter f ⟨c.args.toList.map a.eval⟩) w := by
  simp only [execOp, resolve, h, Act.eval, Deferred.ofValue, invoke, Sem.run_bind, Sem.run_pure, Result.andThen_ok, run_callFunc hf, Array.empty_append, Array.append_empty, map_lists]

theorem run_call_value {c : Call} {f : FuncId} {x : Operand} {b d : List Value} (h : c.callee = .value x) (hx : a.eval x = .func (.func f) ⟨b⟩ ⟨d⟩) (hf : callOk P f = true) :
    (execOp a.eval ⟨dst, .call c, ty, pos, after, guard⟩).run P w = .ok (.enter f ⟨b ++ c.args.toList.map a.eval ++ d⟩) w := by
  simp only [execOp, resolve, h, hx, Deferred.ofValue, invoke, Sem.run_bind, Sem.run_pure, Result.andThen_ok, run_callFunc hf, map_lists]
  simp

theorem run_typeInfo {t : TypeId} {inf : TypeInfo} (w : World) (h : P.info? t = some inf) : (typeInfo t).run P w = .ok inf w := by
  simp [typeInfo, h]

theorem run_method {t : TypeId} {v : Value} {name : String} {f : FuncId} (n : Nat) (h : methOf P t name = some f) : (method (n + 1) t v name).run P w = .ok (f, v) w := by
  unfold methOf at h
  split at h
  · rename_i inf hi
    split at h
    · rename_i m hm
      split at h
      · rename_i g e hp hf hu
        simp only [Option.some.injEq] at h
        subst h
        have hpe : m.path.toList = [] := by
          have : m.path = #[] := by simpa using hp
          rw [this]
        simp [method, run_typeInfo w hi, hm, hpe, follow, hf, receiverAt, run_underlying hu, Place.get]
      · simp at h
    · simp at h
  · simp at h

theorem run_call_invoke {c : Call} {f : FuncId} {x : Operand} {name : String} {t : TypeId} {v : Value} (h : c.callee = .invoke x name) (hx : a.eval x = .iface t v) (hm : methOf P t name = some f) (hf : callOk P f = true) :
    (execOp a.eval ⟨dst, .call c, ty, pos, after, guard⟩).run P w = .ok (.enter f ⟨v :: c.args.toList.map a.eval⟩) w := by
  have hn : ∃ n, P.types.size + Made.depth = n + 1 := ⟨P.types.size + Made.depth - 1, by have : 0 < Made.depth := by decide
                                                                                         omega⟩
  obtain ⟨n, hn⟩ := hn
  simp only [execOp, resolve, h, hx, invoke, Sem.run_bind, Sem.run_pure, Result.andThen_ok, map_lists]
  simp [callMethod, hn, run_method n hm, run_callFunc hf]
  exact List.take_of_length_le (by simp)

theorem run_call_builtin {c : Call} {b : Builtin} {m : Sem Value} {u : Value} {w' : World} (h : c.callee = .builtin b)
    (hb : builtin b c.argTypes ty (c.args.map fun | .const _ => true | _ => false) ⟨c.args.toList.map a.eval⟩ = (do pure (Next.value (← m)))) (hm : m.run P w = .ok u w') :
    (execOp a.eval ⟨dst, .call c, ty, pos, after, guard⟩).run P w = .ok (.value u) w' := by
  have : (execOp a.eval ⟨dst, .call c, ty, pos, after, guard⟩).run P w = (builtin b c.argTypes ty (c.args.map fun | .const _ => true | _ => false) ⟨c.args.toList.map a.eval⟩).run P w := by
    simp only [execOp, resolve, h, invoke, Sem.run_bind, Sem.run_pure, Result.andThen_ok, map_lists]
    rfl
  rw [this, hb]
  exact run_v hm

theorem vs1 {x : Value} {l : List Value} (h : VsRel φ [x] l) : ∃ x', l = [x'] ∧ VRel φ x x' := by
  cases h with
  | cons h t => cases t; exact ⟨_, rfl, h⟩

theorem vs2 {x y : Value} {l : List Value} (h : VsRel φ [x, y] l) : ∃ x' y', l = [x', y'] ∧ VRel φ x x' ∧ VRel φ y y' := by
  cases h with
  | cons h t =>
    obtain ⟨y', rfl, h2⟩ := vs1 t
    exact ⟨_, _, rfl, h, h2⟩

theorem info_of {t : TypeId} {z : Value} {n b : Nat} (h4 : sizeT P t = some n) (h5 : bytesT P t = some b) (h6 : zeroT P t = some z) : ∃ inf, P.info? t = some inf ∧ inf.zero = some z ∧ inf.size = n ∧ inf.bytes = b := by
  unfold sizeT at h4; unfold bytesT at h5; unfold zeroT at h6
  cases hinf : P.info? t with
  | none => simp [hinf] at h4
  | some inf => simp [hinf] at h4 h5 h6; exact ⟨inf, rfl, h6, h4, h5⟩

theorem op_builtin (he : EnvRel φ ψ fr a) {c : Call} {b : Builtin} {args : List Value} (hcal : c.callee = .builtin b) (hv : evVs fr c.args.toList = some args) (hr : b ≠ .min → b ≠ .max → Rel φ s w) :
    OpSpec P φ ψ fr s ⟨dst, .call c, ty, pos, after, guard⟩ a w (builtinR P b c.argTypes.toList args s) := by
  have hvs := evVs_sound he hv
  unfold builtinR
  split
  · rename_i t x ht
    obtain ⟨x', e1, e2⟩ := vs1 hvs
    have hat : c.argTypes = ⟨[t]⟩ := toArray_of_toList ht
    have hrl := hr (by simp) (by simp)
    split
    · rename_i hu
      refine spec_plain fun r hx => ?_
      obtain ⟨q1, q2⟩ := lenS_sound w hu e2 hx
      exact ⟨q1, run_call_builtin hcal rfl (by rw [e1, hat]; exact q2)⟩
    · rename_i hu
      refine spec_plain fun r hx => ?_
      obtain ⟨q1, q2⟩ := lenL_sound w hu e2 hx
      exact ⟨q1, run_call_builtin hcal rfl (by rw [e1, hat]; exact q2)⟩
    · rename_i hu
      refine spec_plain fun r hx => ?_
      obtain ⟨q1, q2⟩ := lenM_sound w hrl hu e2 hx
      exact ⟨q1, run_call_builtin hcal rfl (by rw [e1, hat]; exact q2)⟩
    · exact trivial
  · rename_i ts x y
    obtain ⟨x', y', e1, e2, e3⟩ := vs2 hvs
    refine spec_plain fun r hx => ?_
    obtain ⟨q1, q2⟩ := mn2_sound (P := P) w c.argTypes ty e2 e3 hx
    exact ⟨q1, run_call_builtin hcal rfl (by rw [e1]; exact q2)⟩
  · rename_i ts x y
    obtain ⟨x', y', e1, e2, e3⟩ := vs2 hvs
    refine spec_plain fun r hx => ?_
    obtain ⟨q1, q2⟩ := mx2_sound (P := P) w c.argTypes ty e2 e3 hx
    exact ⟨q1, run_call_builtin hcal rfl (by rw [e1]; exact q2)⟩
  · rename_i t u v x ht
    obtain ⟨x', y', e1, e2, e3⟩ := vs2 hvs
    have hat : c.argTypes = ⟨[t, u]⟩ := toArray_of_toList ht
    have hrl := hr (by simp) (by simp)
    have key : ∀ {e : TypeId} {d : TypeDesc}, P.underlying t = some (.slice e) → P.underlying u = some d → notInt d = true →
        OpSpec P φ ψ fr s ⟨dst, .call c, ty, pos, after, guard⟩ a w (match sizeT P e, bytesT P e, zeroT P e with
          | some sz, some by_, some z => if (cellsL z).length = sz then .s (app s sz by_ v x) else .bad
          | _, _, _ => .bad) := by
      intro e d h1 h2 h3
      split
      · rename_i sz b z h4 h5 h6
        split
        · rename_i hz
          obtain ⟨inf, i1, i2, i3, i4⟩ := info_of h4 h5 h6
          intro r s' hx
          obtain ⟨φ', r', w', q1, q2, q3⟩ := app_sound (ty := ty) h1 h2 h3 i1 i2 i3 i4 hz hrl e2 e3 hx
          exact does_value (run_call_builtin hcal rfl (by rw [e1, hat]; exact q1)) ⟨φ', q3, q2⟩
        · exact trivial
      · exact trivial
    split
    · rename_i h1 h2; exact key h1 h2 rfl
    · rename_i h1 h2; exact key h1 h2 rfl
    · exact trivial
  · rename_i t u v x ht
    obtain ⟨x', y', e1, e2, e3⟩ := vs2 hvs
    have hat : c.argTypes = ⟨[t, u]⟩ := toArray_of_toList ht
    have hrl := hr (by simp) (by simp)
    have key : ∀ {e : TypeId}, P.underlying t = some (.slice e) →
        OpSpec P φ ψ fr s ⟨dst, .call c, ty, pos, after, guard⟩ a w (match sizeT P e with
          | some sz => .s (cpy s sz v x)
          | _ => .bad) := by
      intro e h1
      split
      · rename_i sz h4
        intro r s' hx
        obtain ⟨w', q1, q2, q3⟩ := cpy_sound w (ty := ty) (u := u) h1 h4 hrl e2 e3 hx
        exact does_value (run_call_builtin hcal rfl (by rw [e1, hat]; exact q1)) ⟨φ, q3, VRel.of_plain φ q2⟩
      · exact trivial
    split
    · rename_i h1 h2; exact key h1
    · rename_i h1 h2; exact key h1
    · exact trivial
  · exact trivial

theorem op_callC (hC : CtxOk P C) {o : Oper} {f : FuncId} {args args' : List Value} (hr : Rel φ s w) (hvs : VsRel φ args args')
    (hrun : callOk P f = true → (execOp a.eval o).run P w = .ok (.enter f ⟨args'⟩) w) (hk : ∃ c f, o.op = .call c ∧ c.callee = .value (.func f)) : OpSpec P φ ψ fr s o a w (callC C f args s) := by
  unfold callC
  cases hl : lookC C f with
  | none => exact trivial
  | some x =>
    have h1 := hC.ok f x hl
    have h2 := hC.run f x hl
    cases x with
    | st v =>
      intro r s' hx
      exact does_enter (hrun h2) (Calls.mono (h1 φ s w args args' r s' hr hvs hx) fun e w' h => by cases e <;> first | exact h | exact h.elim)
    | rd g =>
      intro r hx
      exact .inr ⟨hk, does_enter (hrun h2) (Calls.mono (h1 φ s w args args' r hr hvs hx) fun e w' h => by cases e <;> first | exact h | exact h.elim)⟩
    | pn v =>
      intro b r s' hx
      unfold DoesX
      rw [hrun h2]
      exact Calls.mono (h1 φ s w args args' b r s' hr hvs hx) fun e w' h => by
        cases e with
        | returned u => exact h
        | panicked c => obtain ⟨h1, φ', u, h2, h3⟩ := h; exact ⟨u, h2, h1, φ', h3⟩
        | outgrown => exact h.elim

theorem op_callV (hC : CtxOk P C) {o : Oper} {v v' : Value} {args args' : List Value} (hr : Rel φ s w) (hvs : VsRel φ args args') (hv : VRel φ v v')
    (hrun : ∀ f b d, v' = .func (.func f) ⟨b⟩ ⟨d⟩ → callOk P f = true → (execOp a.eval o).run P w = .ok (.enter f ⟨b ++ args' ++ d⟩) w) : OpSpec P φ ψ fr s o a w (.s (callV C v args s)) := by
  intro r s' hx
  unfold callV at hx
  split at hx
  · rename_i f b d
    cases hv with
    | func _ hb hd =>
      cases hl : lookC C f with
      | none => simp [hl] at hx
      | some x =>
        have h1 := hC.ok f x hl
        have h2 := hC.run f x hl
        have hall := (hb.append hvs).append hd
        rw [hl] at hx
        cases x with
        | st v =>
          simp only at hx
          exact does_enter (hrun f _ _ rfl h2) (Calls.mono (h1 φ s w _ _ r s' hr hall hx) fun e w' h => by cases e <;> first | exact h | exact h.elim)
        | rd g =>
          simp only [Option.map_eq_some_iff, Prod.mk.injEq] at hx
          obtain ⟨r0, hx, rfl, rfl⟩ := hx
          exact does_enter (hrun f _ _ rfl h2) (Calls.mono (h1 φ s w _ _ _ hr hall hx) fun e w' h => by
            cases e with
            | returned u => exact ⟨φ, Step.of_below hr h.1.1 h.1.2, h.2⟩
            | panicked c => exact h.elim
            | outgrown => exact h.elim)
        | pn v => simp at hx
  · simp at hx

theorem op_panic (he : EnvRel φ ψ fr a) (x : Operand) (hr : Rel φ s w) : OpSpec P φ ψ fr s ⟨dst, .panic x, ty, pos, after, guard⟩ a w (opR std P C an fr s og ⟨dst, .panic x, ty, pos, after, guard⟩) := by
  simp only [opR]
  split
  · rename_i v hv
    have hvr := evV_sound he hv
    intro b r s' hx
    unfold panV at hx
    split at hx
    rotate_left
    · simp at hx
    rename_i t v
    simp only [Option.some.injEq, Prod.mk.injEq] at hx
    obtain ⟨rfl, rfl, rfl⟩ := hx
    cases hu : a.eval x with
    | iface t' v' =>
      rw [hu] at hvr
      unfold DoesX
      have : (execOp a.eval ⟨dst, .panic x, ty, pos, after, guard⟩).run P w = .halt (.panic (.iface t' v')) w := by
        simp only [execOp, hu, Sem.run_bind]
        rfl
      rw [this]
      exact ⟨rfl, φ, Step.refl hr, hvr⟩
    | _ => rw [hu] at hvr; cases hvr
  · exact trivial

theorem op_callI (hC : CtxOk P C) {o : Oper} {name : String} {v v' : Value} {args args' : List Value} (hr : Rel φ s w) (hvs : VsRel φ args args') (hv : VRel φ v v')
    (hrun : ∀ t u f, v' = .iface t u → methOf P t name = some f → callOk P f = true → (execOp a.eval o).run P w = .ok (.enter f ⟨u :: args'⟩) w) : OpSpec P φ ψ fr s o a w (.s (callI P C name v args s)) := by
  intro r s' hx
  unfold callI at hx
  split at hx
  · rename_i t v0
    cases hv with
    | iface _ hu =>
      split at hx
      · rename_i f hm
        cases hl : lookC C f with
        | none => simp [hl] at hx
        | some x =>
          have h1 := hC.ok f x hl
          have h2 := hC.run f x hl
          have hall := VsRel.cons hu hvs
          rw [hl] at hx
          cases x with
          | st g =>
            simp only at hx
            exact does_enter (hrun t _ f rfl hm h2) (Calls.mono (h1 φ s w _ _ r s' hr hall hx) fun e w' h => by cases e <;> first | exact h | exact h.elim)
          | rd g =>
            simp only [Option.map_eq_some_iff, Prod.mk.injEq] at hx
            obtain ⟨r0, hx, rfl, rfl⟩ := hx
            exact does_enter (hrun t _ f rfl hm h2) (Calls.mono (h1 φ s w _ _ _ hr hall hx) fun e w' h => by
              cases e with
              | returned u => exact ⟨φ, Step.of_below hr h.1.1 h.1.2, h.2⟩
              | panicked c => exact h.elim
              | outgrown => exact h.elim)
          | pn v => simp at hx
      · simp at hx
  · simp at hx

theorem op_call (hC : CtxOk P C) (he : EnvRel φ ψ fr a) (c : Call) (hr : (c.callee ≠ .builtin .min → c.callee ≠ .builtin .max → Rel φ s w)) :
    OpSpec P φ ψ fr s ⟨dst, .call c, ty, pos, after, guard⟩ a w (opR std P C an fr s og ⟨dst, .call c, ty, pos, after, guard⟩) := by
  simp only [opR]
  split
  · exact trivial
  · rename_i args hv
    have hvs := evVs_sound he hv
    split
    · rename_i f hcal
      exact op_callC hC (hr (by simp [hcal]) (by simp [hcal])) hvs (fun hf => run_call_func hcal hf) ⟨c, f, rfl, hcal⟩
    · rename_i x hn hcal
      split
      · rename_i v hx
        exact op_callV hC (hr (by simp [hcal]) (by simp [hcal])) hvs (evV_sound he hx) fun f b d e hf => run_call_value hcal e hf
      · exact trivial
    · rename_i b hcal
      exact op_builtin he hcal hv fun h1 h2 => hr (by simp [hcal, h1]) (by simp [hcal, h2])
    · rename_i x name hcal
      split
      · rename_i v hx
        exact op_callI hC (hr (by simp [hcal]) (by simp [hcal])) hvs (evV_sound he hx) fun t u f e hm hf => run_call_invoke hcal e hm hf
      · exact trivial

/-- **The law of an operation.** -/
theorem opR_sound (hC : CtxOk P C) (he : EnvRel φ ψ fr a) (hg : GOk a og) (o : Oper) (hog : og = ogOf ops o)
    (hl : clsOf P C an ops fr o ≠ 0 → clsOf P C an ops fr o ≠ 2 → LocRel φ ψ fr w) (hr : 2 ≤ clsOf P C an ops fr o → Rel φ s w) : OpSpec P φ ψ fr s o a w (opR std P C an fr s og o) := by
  obtain ⟨dst, op, ty, pos, after, guard⟩ := o
  cases op
  case move x => exact op_move he hg x _ (.inl rfl)
  case assign x => exact op_move he hg x _ (.inr rfl)
  case pick c x y => exact op_pick he c x y
  case alloc t => exact op_alloc (hr (by simp only [clsOf]; split <;> (try split) <;> decide)) t
  case box t x => exact op_box he (hr (by simp only [clsOf]; split <;> (try split) <;> decide)) t x
  case load t x =>
    refine op_load he hg t x (fun t' j h => hl ?_ ?_) (fun v h => hr ?_) <;> (simp only [clsOf, ← hog, h]; decide)
  case store t x y =>
    exact op_store he hg t x y (hl (by simp only [clsOf]; split <;> (try split) <;> decide) (by simp only [clsOf]; split <;> (try split) <;> decide)) (hr (by simp only [clsOf]; split <;> (try split) <;> decide))
  case nilCheck x => exact op_nilCheck he hg x
  case binOp b t x y yt => exact op_binOp he b t x y yt
  case unOp b t x => exact op_unOp he b t x
  case convert src dt x => exact op_convert he src dt x fun e h => hr (by simp only [clsOf, h]; split <;> decide)
  case makeInterface t x => exact op_iface he t x
  case makeFunc fn f c => exact op_func he fn f c
  case build t ps => exact op_build he t ps
  case buildSlice t n ps => exact op_buildSlice he (hr (by simp only [clsOf]; decide)) t n ps
  case makeSlice t l c => exact op_makeSlice he (hr (by simp only [clsOf]; decide)) t l c
  case slice t x lo hi mx => exact op_slice he (hr (by simp only [clsOf]; decide)) t x lo hi mx
  case fieldAddr t x j => exact op_fieldAddr he hg t x j
  case field t x j => exact op_field he t x j
  case indexAddr t x i => exact op_indexAddr he hg t x i fun e h => hr (by simp only [clsOf, h]; decide)
  case index t x i => exact op_index he t x i
  case lookup t x k ok => exact op_lookup he (hr (by simp only [clsOf]; decide)) t x k ok
  case mapUpdate t x k y => exact op_upm he (hr (by simp only [clsOf]; decide)) t x k y _ (.inl rfl)
  case insert t x k y => exact op_upm he (hr (by simp only [clsOf]; decide)) t x k y _ (.inr rfl)
  case makeMap t o => exact op_makeMap (hr (by simp only [clsOf]; decide)) t o
  case extract x i => exact op_extract he x i
  case typeAssert x xt t ok => exact op_typeAssert he x xt t ok
  case panic x => exact op_panic he x (hr (by simp only [clsOf]; decide))
  case call c =>
    refine op_call hC he c fun h1 h2 => hr ?_
    obtain ⟨callee, args, ats⟩ := c
    cases callee with
    | value x =>
      cases x <;> simp only [clsOf] <;> first | decide | (split <;> (try split) <;> decide)
    | invoke _ _ => simp only [clsOf]; decide
    | builtin b => cases b <;> first | (simp only [clsOf]; decide) | exact absurd rfl h1 | exact absurd rfl h2
  all_goals exact trivial

end
end Go.Sim
set_option linter.unusedSimpArgs false
set_option linter.unusedVariables false
namespace Go.Sim
open Go.RowKit (Below)

def StepE (P : Program) (ops : Array Oper) (o : Oper) (a : Act) (w : World) (R : Value → World → Prop) : Prop :=
  if Region.wanted o (yielded ops a.tmps) = true then Does P o a w R else R undef w

theorem StepE.wpOp {P : Program} {ops : Array Oper} {o : Oper} {a : Act} {w : World} {R : Value → World → Prop} {next : Act → World → Prop} {Q : Exit → Act → World → Prop}
    (h : StepE P ops o a w R) (hn : ∀ u w', R u w' → next (a.put o.dst u) w') :
    if Region.wanted o (yielded ops a.tmps) then o.wp P a w next Q ∨ (o.asks P a w ∧ LetsOut Q) else next (a.put o.dst undef) w := by
  unfold StepE at h
  split
  · rename_i hw
    rw [if_pos hw] at h
    exact .inl (DoesE.wp h hn)
  · rename_i hw
    rw [if_neg hw] at h
    exact hn _ _ h

/-- The same, of an operation that may panic. -/
def StepX (P : Program) (ops : Array Oper) (o : Oper) (a : Act) (w : World) (R Z : Value → World → Prop) : Prop :=
  if Region.wanted o (yielded ops a.tmps) = true then DoesX P (execOp a.eval o) w R Z else R undef w

theorem StepE.x {P : Program} {ops : Array Oper} {o : Oper} {a : Act} {w : World} {R Z : Value → World → Prop} (h : StepE P ops o a w R) : StepX P ops o a w R Z := by
  unfold StepE at h
  unfold StepX
  split
  · rename_i hw; rw [if_pos hw] at h; exact DoesX.of h
  · rename_i hw; rw [if_neg hw] at h; exact h

theorem StepX.wpOp {P : Program} {ops : Array Oper} {o : Oper} {a : Act} {w : World} {R Z : Value → World → Prop} {next : Act → World → Prop} {Q : Exit → Act → World → Prop}
    (h : StepX P ops o a w R Z) (hn : ∀ u w', R u w' → next (a.put o.dst u) w') (hz : ∀ u w', Z u w' → Q (.panic [{ v := u, recovered := false }]) a w') :
    if Region.wanted o (yielded ops a.tmps) then o.wp P a w next Q ∨ (o.asks P a w ∧ LetsOut Q) else next (a.put o.dst undef) w := by
  unfold StepX at h
  split
  · rename_i hw
    rw [if_pos hw] at h
    exact .inl (DoesX.wp h hn hz)
  · rename_i hw
    rw [if_neg hw] at h
    exact hn _ _ h

theorem StepX.mono {P : Program} {ops : Array Oper} {o : Oper} {a : Act} {w : World} {R R' Z Z' : Value → World → Prop} (h : StepX P ops o a w R Z) (hr : ∀ u w', R u w' → R' u w') (hz : ∀ u w', Z u w' → Z' u w') : StepX P ops o a w R' Z' := by
  unfold StepX at *
  split
  · rename_i hw; rw [if_pos hw] at h; exact DoesX.mono h hr hz
  · rename_i hw; rw [if_neg hw] at h; exact hr _ _ h

theorem lookE_keep {ks : List Nat} : ∀ {e : List (Nat × Ent)} {t : Nat} {x : Ent}, lookE (keepE ks e) t = some x → memT ks t = true ∧ lookE e t = some x
  | [], t, x, h => by simp [keepE, lookE] at h
  | (i, y) :: r, t, x, h => by
    simp only [keepE] at h
    cases hm : memT ks i with
    | true =>
      rw [hm] at h
      simp only [lookE] at h ⊢
      split at h
      · rename_i hi
        rw [if_pos hi]
        exact ⟨hi ▸ hm, h⟩
      · rename_i hi
        rw [if_neg hi]
        exact lookE_keep h
    | false =>
      rw [hm] at h
      obtain ⟨h1, h2⟩ := lookE_keep h
      refine ⟨h1, ?_⟩
      simp only [lookE]
      rw [if_neg fun e => by rw [e, hm] at h1; cases h1]
      exact h2

/-- What is kept of the frame; another state of the call's own that agrees there will do. -/
theorem Inv.bare {p : Bool} {N : Nat × List Deferred} {φ0 φ : Phi} {s0 s : St} {w0 w : World} {ψ : Nat → Option Nat} {fr : Fr} {a a' : Act} (ks : List Nat) (h : Inv p N φ0 s0 w0 φ ψ s fr a w) (hs : a'.tmps.size = a.tmps.size) (hd : a'.defers = a.defers) (ha : ∀ t, memT ks t = true → a'.tmps[t]? = a.tmps[t]?) :
    Inv p N φ0 s0 w0 φ ψ s (keepF ks fr) a' w := by
  obtain ⟨e, l, g⟩ := fr
  exact ⟨h.step, ⟨⟨fun t x hx => by
      obtain ⟨h1, h2⟩ := lookE_keep hx
      obtain ⟨h3, h4⟩ := h.frel.env t x h2
      refine ⟨by rw [hs]; exact h3, ?_⟩
      rw [Array.getD_eq_getD_getElem?, ha t h1, ← Array.getD_eq_getD_getElem?]
      exact h4, fun t t' j gt b hl => by simp [keepF, lookG] at hl⟩, fun t cs hl => by simp [keepF, lookL] at hl⟩,
    ⟨fun t cs c hl => by simp [keepF, lookL] at hl, fun t cs c b k l hl => by simp [keepF, lookL] at hl, fun t t' cs cs' c hne hl => by simp [keepF, lookL] at hl⟩, hd.trans h.defers, hs.trans h.size, h.pure⟩

def Ext (s s' : St) : Prop := ∀ b k, s.get b = some k → s'.get b = some k

theorem Ext.refl (s : St) : Ext s s := fun _ _ h => h
theorem Ext.trans {a b c : St} (h : Ext a b) (k : Ext b c) : Ext a c := fun i x e => k i x (h i x e)

section
variable {P : Program} {C : Ctx} {an : An} {φ0 φ : Phi} {ψ : Nat → Option Nat} {s0 s : St} {w0 w : World} {fr : Fr} {a : Act} {ops : Array Oper} {R : Type} {K : Fr → St → Option R} {X : Value → Fr → St → Option R} {r : R}

abbrev InvA (an : An) := Inv an.pure (an.N, an.D)

/-- Where a panic leads. -/
def Fell (an : An) (X : Value → Fr → St → Option R) (r : R) (fr : Fr) (φ : Phi) (s : St) (w : World) : Value → World → Prop := fun u w' =>
  an.pure ≠ true ∧ ∃ φ' s' x, X x fr s' = some r ∧ Step φ s w φ' s' w' ∧ VRel φ' x u

/-- What a panic must achieve. -/
def Falls (an : An) (φ0 : Phi) (s0 : St) (w0 : World) (X : Value → Fr → St → Option R) (r : R) (Q : Exit → Act → World → Prop) : Prop :=
  ∀ φ' ψ' s' fr' a' w' x u, InvA an φ0 s0 w0 φ' ψ' s' (keepF an.keep fr') a' w' → VRel φ' x u → X x fr' s' = some r → Q (.panic [{ v := u, recovered := false }]) a' w'

/-- Where an operation leads. -/
def After (an : An) (φ0 : Phi) (s0 : St) (w0 : World) (K : Fr → St → Option R) (r : R) (o : Oper) (a : Act) (fr : Fr) (s : St) (c : Cls) (q : Nat) (φ : Phi) (ψ : Nat → Option Nat) (w : World) : Value → World → Prop := fun u w' =>
  ∃ φ' ψ' s' fr', K fr' s' = some r ∧ InvA an φ0 s0 w0 φ' ψ' s' fr' (a.put o.dst u) w' ∧ Keeps fr fr' o.dst ∧ (c ≤ 4 ∨ c = 6 → LocSame fr fr') ∧ (c = 5 → ∀ t, t ≠ q → LocAt t fr fr') ∧ (c ≤ 3 ∨ c = 5 ∨ c = 6 → Ext s s') ∧
    (∀ x, x < w.heap.size → Away φ ψ s fr x → Away φ' ψ' s' fr' x ∧ w'.heap[x]? = w.heap[x]?) ∧ φ.le φ'

theorem undef_rel (φ : Phi) : VRel φ undef undef := VRel.of_plain φ rfl

theorem after_put {o : Oper} {c : Cls} {q : Nat} {x : Ent} {u : Value} (h : InvA an φ0 s0 w0 φ ψ s fr a w) (hx : EntRel φ ψ x u) (hk : putK an.N fr o.dst x (fun fr => K fr s) = some r) :
    After an φ0 s0 w0 K r o a fr s c q φ ψ w u w := by
  obtain ⟨fr', h1, ⟨h2, h3, _⟩, h4⟩ := h.put hx hk
  exact ⟨φ, ψ, s, fr', h1, h4, h2, fun _ => .of_eq h3, fun _ t _ => LocSame.at (.of_eq h3) t, fun _ => .refl s, fun x _ ha => ⟨⟨ha.row, by rw [h3]; exact ha.loc⟩, rfl⟩, .refl _⟩

theorem after_step {o : Oper} {c : Cls} {q : Nat} {v u : Value} {φ' : Phi} {s' : St} {w' : World} (h : InvA an φ0 s0 w0 φ ψ s fr a w) (hp : an.pure ≠ true) (hs : Step φ s w φ' s' w') (hx : VRel φ' v u)
    (hc : c ≤ 3 ∨ c = 5 ∨ c = 6 → Ext s s') (hk : putK an.N fr o.dst (.val v) (fun fr => K fr s') = some r) : After an φ0 s0 w0 K r o a fr s c q φ ψ w u w' := by
  have h' := h.world hs fun e => absurd e hp
  obtain ⟨fr', h1, ⟨h2, h3, _⟩, h4⟩ := h'.put (x := .val v) (d := o.dst) (u := u) hx hk
  refine ⟨φ', ψ, s', fr', h1, h4, h2, fun _ => .of_eq h3, fun _ t _ => LocSame.at (.of_eq h3) t, hc, fun x hx ha => ⟨⟨fun b k l g1 g2 e => ?_, by rw [h3]; exact ha.loc⟩, hs.frm.old x hx fun b k l g1 _ g3 => ha.row b k l g1 g3⟩, hs.ext⟩
  rcases hs.own b k l g1 g2 with g3 | ⟨b0, k0, l0, f1, _, f3, f4⟩
  · omega
  · exact ha.row b0 k0 l0 f1 f3 (f4.trans e)

theorem after_below {o : Oper} {c : Cls} {q : Nat} {v u : Value} {w' : World} (h : InvA an φ0 s0 w0 φ ψ s fr a w) (hb : Below w.heap.size w w' ∧ Froz w w') (hx : VRel φ v u)
    (hk : putK an.N fr o.dst (.val v) (fun fr => K fr s) = some r) : After an φ0 s0 w0 K r o a fr s c q φ ψ w u w' := by
  obtain ⟨φ', ψ', s', fr', h1, h2, h3, h4, h5, h6, h7, h8⟩ := after_put (c := c) (q := q) (h.below hb.1 hb.2) (x := .val v) hx hk
  exact ⟨φ', ψ', s', fr', h1, h2, h3, h4, h5, h6, fun x hx ha => ⟨(h7 x (Nat.lt_of_lt_of_le hx hb.1.size) ha).1, hb.1.block x hx⟩, h8⟩

/-- An operation of small class turns nothing that was there, and none of the call's own variables. -/
def SmallR (s : St) : OpR → Prop
  | .s m => ∀ r s', m = some (r, s') → Ext s s'
  | .u _ => False
  | .pn _ => False
  | _ => True

theorem ext_new (s : St) (h : ∀ b k, s.get b = some k → b < s.n) (k : Blk) : Ext s (s.new k) := by
  intro b x hb
  rw [St.get_new, if_neg (by have := h b x hb; omega)]
  exact hb

theorem small_als {s s' : St} {n m : Nat} {rows : List (List Value)} {r : Value} (h : ∀ b k, s.get b = some k → b < s.n) (hx : als s n m rows = some (r, s')) : Ext s s' := by
  simp only [als, Option.some.injEq, Prod.mk.injEq] at hx
  rw [← hx.2]
  exact ext_new s h _

theorem small_alv {s s' : St} {v r : Value} (h : ∀ b k, s.get b = some k → b < s.n) (hx : alv s v = some (r, s')) : Ext s s' := by
  simp only [alv, alc, Option.bind_eq_some_iff, Option.some.injEq, Prod.mk.injEq] at hx
  obtain ⟨cs, _, _, h2⟩ := hx
  rw [← h2]
  exact ext_new s h _

theorem small_builtin {b : Builtin} {ts : List TypeId} {vs : List Value} (hb : b = .len ∨ b = .min ∨ b = .max) : SmallR s (builtinR P b ts vs s) := by
  unfold builtinR
  split
  · split <;> exact trivial
  · exact trivial
  · exact trivial
  · simp at hb
  · simp at hb
  · exact trivial

theorem opR_small {og : Option (Nat × Bool)} (h : ∀ b k, s.get b = some k → b < s.n) (o : Oper) (hog : og = ogOf ops o) (hc : clsOf P C an ops fr o ≤ 3 ∨ clsOf P C an ops fr o = 5 ∨ clsOf P C an ops fr o = 6) : SmallR s (opR std P C an fr s og o) := by
  obtain ⟨dst, op, ty, pos, after, guard⟩ := o
  cases op
  case alloc t =>
    simp only [opR]
    split
    · split
      · cases dst with
        | none => exact trivial
        | some d =>
          simp only
          split
          · exact trivial
          · exact fun r s' hx => small_alv h hx
      · exact trivial
    · exact trivial
  case box t x =>
    simp only [opR]
    split
    · cases dst with
      | none => exact trivial
      | some d =>
        simp only
        split
        · exact trivial
        · exact fun r s' hx => small_alv h hx
    · exact trivial
  case store t x y =>
    simp only [clsOf, ← hog] at hc
    simp only [opR]
    cases hy : evE fr og x with
    | none => split <;> first | exact trivial | simp_all
    | some q =>
      rw [hy] at hc
      cases q with
      | val v => simp at hc
      | lp t' j => split <;> first | exact trivial | (split <;> exact trivial) | simp_all
  case convert src dt x =>
    simp only [opR]
    split
    · exact trivial
    · exact trivial
    · split <;> exact trivial
    · rename_i h1 h2 h3
      simp [clsOf, h1, h2] at hc
    · exact trivial
  case mapUpdate t x k y => simp [clsOf] at hc
  case panic x => simp [clsOf] at hc
  case insert t x k y => simp [clsOf] at hc
  case buildSlice t n ps =>
    simp only [opR]
    split
    · split
      · split
        · intro r s' hx
          simp only [std, Option.bind_eq_some_iff] at hx
          obtain ⟨rows, _, hx⟩ := hx
          exact small_als h hx
        · exact trivial
      · exact trivial
    · exact trivial
  case makeSlice t l c =>
    simp only [opR]
    split
    · split
      · split
        · intro r s' hx
          unfold mks at hx
          split at hx
          · split at hx
            · exact small_als h hx
            · simp at hx
          · simp at hx
        · exact trivial
      · exact trivial
    · exact trivial
  case makeMap t o =>
    cases o with
    | some _ => exact trivial
    | none =>
      intro r s' hx
      simp only [mkm, Option.some.injEq, Prod.mk.injEq] at hx
      rw [← hx.2]
      exact ext_new s h _
  case call c =>
    obtain ⟨callee, args, ats⟩ := c
    simp only [opR]
    split
    · exact trivial
    · cases callee with
      | value x =>
        cases x with
        | func f =>
          simp only [clsOf] at hc
          simp only [callC]
          cases hl : lookC C f with
          | none => exact trivial
          | some q =>
            cases q with
            | st v => simp [hl] at hc
            | pn v => simp [hl] at hc
            | rd g => exact trivial
        | _ => simp [clsOf] at hc
      | invoke _ _ => simp [clsOf] at hc
      | builtin b => cases b <;> first | (simp [clsOf] at hc; done) | exact small_builtin (.inl rfl) | exact small_builtin (.inr (.inl rfl)) | exact small_builtin (.inr (.inr rfl))
  all_goals (simp only [opR]; repeat (first | exact trivial | split))

/-- What turns a variable of the call's own tells which. -/
def SlotR (q : Nat) : OpR → Prop
  | .set t _ => t = q
  | _ => True

theorem slot_builtin {q : Nat} {b : Builtin} {ts : List TypeId} {vs : List Value} : SlotR q (builtinR P b ts vs s) := by
  unfold builtinR
  repeat (first | exact trivial | split)

theorem opR_slot {og : Option (Nat × Bool)} (o : Oper) (hog : og = ogOf ops o) : SlotR (slotOf ops fr o) (opR std P C an fr s og o) := by
  obtain ⟨dst, op, ty, pos, after, guard⟩ := o
  cases op
  case store t x y =>
    simp only [opR]
    split
    · exact trivial
    · rename_i h _
      split
      · simp only [SlotR, slotOf, ← hog, h]
      · exact trivial
    · exact trivial
  case call c =>
    obtain ⟨callee, args, ats⟩ := c
    simp only [opR]
    split
    · exact trivial
    · cases callee with
      | value x =>
        cases x <;> simp only [callC] <;> (repeat (first | exact trivial | split))
      | invoke _ _ => simp only; split <;> exact trivial
      | builtin b => exact slot_builtin
  case makeMap t o => cases o <;> exact trivial
  all_goals (simp only [opR]; repeat (first | exact trivial | split))

def LocR : OpR → Prop
  | .set _ _ => False
  | _ => True

theorem loc_builtin {b : Builtin} {ts : List TypeId} {vs : List Value} : LocR (builtinR P b ts vs s) := by
  unfold builtinR
  repeat (first | exact trivial | split)

theorem opR_loc {og : Option (Nat × Bool)} (o : Oper) (hog : og = ogOf ops o) (hc : clsOf P C an ops fr o ≤ 4 ∨ clsOf P C an ops fr o = 6) : LocR (opR std P C an fr s og o) := by
  obtain ⟨dst, op, ty, pos, after, guard⟩ := o
  cases op
  case store t x y =>
    simp only [opR]
    split
    · exact trivial
    · rename_i h _
      simp only [clsOf, ← hog, h] at hc
      simp at hc
    · exact trivial
  case call c =>
    obtain ⟨callee, args, ats⟩ := c
    simp only [opR]
    split
    · exact trivial
    · cases callee with
      | value x =>
        cases x <;> simp only [callC] <;> (repeat (first | exact trivial | split))
      | invoke _ _ => simp only; split <;> exact trivial
      | builtin b => exact loc_builtin
  case makeMap t o => cases o <;> exact trivial
  all_goals (simp only [opR]; repeat (first | exact trivial | split))

theorem Rel.lt {φ : Phi} {s : St} {w : World} (h : Rel φ s w) : ∀ b k, s.get b = some k → b < s.n := by
  intro b k hb
  obtain ⟨l, h1, _⟩ := h.blk b k hb
  exact h.fresh b l h1

theorem ofB {φ : Phi} {b : Bool} {v : Value} (h : VRel φ v (.bool b)) : v = .bool b := by cases h; rfl

theorem isB {φ : Phi} {b : Bool} {u : Value} (h : VRel φ (.bool b) u) : u = .bool b := by cases h; rfl

theorem get_of_getD {a : Array Value} {t : Nat} {b : Bool} (h : a.getD t undef = .bool b) : a[t]? = some (.bool b) := by
  rw [Array.getD_eq_getD_getElem?] at h
  cases ht : a[t]? with
  | none => rw [ht] at h; simp [undef] at h
  | some x => rw [ht] at h; simp only [Option.getD_some] at h; rw [h]

theorem getD_of_get {a : Array Value} {t : Nat} {b : Value} (h : a[t]? = some b) : a.getD t undef = b := by
  rw [Array.getD_eq_getD_getElem?, h]; rfl

theorem evOp_eff0 (hC : CtxOk P C) (h : InvA an φ0 s0 w0 φ ψ s fr a w) (o : Oper) (he : evOp std P C an ops o fr s X K = some r) (hnp : o.guard = none → ∀ m, opR std P C an fr s none o ≠ .pn m) :
    StepE P ops o a w (After an φ0 s0 w0 K r o a fr s (clsOf P C an ops fr o) (slotOf ops fr o) φ ψ w) := by
  have hlt := h.step.rel.lt
  obtain ⟨dst, op, ty, pos, after, guard⟩ := o
  cases guard with
  | none =>
    generalize hcl : clsOf P C an ops fr ⟨dst, op, ty, pos, after, none⟩ = cl
    have hsm := fun hc => opR_small (P := P) (C := C) (an := an) (ops := ops) (fr := fr) (og := none) hlt ⟨dst, op, ty, pos, after, none⟩ rfl hc
    have hlo := fun hc => opR_loc (P := P) (C := C) (an := an) (ops := ops) (fr := fr) (s := s) (og := none) ⟨dst, op, ty, pos, after, none⟩ rfl hc
    rw [hcl] at hsm hlo
    have hsl := opR_slot (P := P) (C := C) (an := an) (ops := ops) (fr := fr) (s := s) (og := none) ⟨dst, op, ty, pos, after, none⟩ rfl
    have spec := opR_sound (P := P) (C := C) (an := an) (ops := ops) (og := none) hC h.frel.toEnvRel (fun _ _ e => by simp at e) ⟨dst, op, ty, pos, after, none⟩ rfl (fun _ _ => h.frel.loc) (fun _ => h.step.rel)
    unfold StepE
    rw [if_pos (by simp [Region.wanted])]
    simp only [evOp] at he
    replace hnp := hnp rfl
    generalize opR std P C an fr s none ⟨dst, op, ty, pos, after, none⟩ = x at he spec hsm hlo hsl hnp
    cases x with
    | pn m => exact absurd rfl (hnp m)
    | k v =>
      obtain ⟨u, h1, h2⟩ := spec
      exact does_value h1 (after_put h (x := .val v) h2 he)
    | v m =>
      simp only [std, Option.bind_eq_some_iff] at he
      obtain ⟨v, hm, he⟩ := he
      rcases spec v hm with ⟨u, h1, h2⟩ | ⟨_, h1⟩
      · exact does_value h1 (after_put h (x := .val v) h2 he)
      · exact DoesE.mono h1 fun u w' ⟨h2, h3⟩ => after_below h h2 h3 he
    | s m =>
      simp only at he
      split at he
      · simp at he
      · rename_i hp
        simp only [std, Option.bind_eq_some_iff] at he
        obtain ⟨⟨v, s'⟩, hm, he⟩ := he
        exact DoesE.mono (spec v s' hm) fun u w' ⟨φ', h2, h3⟩ => after_step h hp h2 h3 (fun hc => hsm hc _ _ hm) he
    | u m =>
      simp only at he
      split at he
      · simp at he
      · rename_i hp
        simp only [std, Option.bind_eq_some_iff] at he
        obtain ⟨s', hm, he⟩ := he
        refine DoesE.mono (spec s' hm) fun u w' h2 => ?_
        obtain ⟨rfl, h2⟩ := h2
        exact after_step h hp h2 (undef_rel _) (fun hc => (hsm hc).elim) he
    | p t j =>
      obtain ⟨c, h1, h2⟩ := spec
      exact does_value h2 (after_put h (x := .lp t j) ⟨c, h1, rfl⟩ he)
    | box t m =>
      simp only [std, Option.bind_eq_some_iff] at he
      obtain ⟨cs, hm, he⟩ := he
      obtain ⟨hd, cs', e, h2, h3, h4⟩ := spec cs hm
      obtain ⟨fr', g1, ⟨g2, g5, g6⟩, g3, g4⟩ := Inv.newL e h h2 h3 he
      obtain ⟨fr'', f1, ⟨f2, f3, _⟩, f4⟩ := g4.put (x := .lp t 0) (d := dst) (u := .pointer (some ⟨w.heap.size, 0, none⟩)) ⟨_, g3, rfl⟩ g1
      refine does_value h4 ⟨φ, _, s, fr'', f1, f4, ⟨fun t ht => (f2.e t ht).trans (g2.e t (by simp)), fun t ht => (f2.g t ht).trans (g2.g t (by simp))⟩, fun hc t' ht => by rw [f3]; exact g5 t' ht, fun _ t' _ ht => by rw [f3]; exact g5 t' ht, fun _ => .refl s, fun x hx ha => ⟨⟨ha.row, fun t' cs2 hl => by
        rw [f3] at hl
        exact g6 x hx ha.loc t' cs2 hl⟩, heap_alloc_old w _ x hx⟩, .refl _⟩
    | set t m =>
      simp only [std, Option.bind_eq_some_iff] at he
      obtain ⟨cs, hm, he⟩ := he
      obtain ⟨old, c, w', cs', e, h1, h2, h3, h4, h5, h6, h7, h8, h9, h10, h11⟩ := spec cs hm
      obtain ⟨fr', g1, g2, g5, g4⟩ := Inv.setL h h1 h2 e h4 h5 h6 h7 h8 h9 h10 h11 he
      obtain ⟨fr'', f1, ⟨f2, f3, _⟩, f4⟩ := g4.put (x := .val undef) (d := dst) (u := undef) (undef_rel φ) g1
      refine does_skip h3 ⟨φ, _, s, fr'', f1, f4, ⟨fun t ht => (f2.e t ht).trans (g2.e t (by simp)), fun t ht => (f2.g t ht).trans (g2.g t (by simp))⟩, fun hc => (hlo hc).elim, fun _ t' ht _ => by rw [f3]; exact g5 t' (fun e => ht (e.trans hsl)), fun _ => .refl s, fun x hx ha => ⟨⟨ha.row, fun t' cs2 hl => ?_⟩, h7 x fun e => ha.loc t old h1 (by rw [e]; exact h2)⟩, .refl _⟩
      rw [f3] at hl
      by_cases hte : t' = t
      · rw [hte]; exact ha.loc t old h1
      · rw [g5 t' hte] at hl; exact ha.loc t' cs2 hl
    | bad => simp at he
  | some jw =>
    obtain ⟨j, want⟩ := jw
    simp only [evOp] at he
    cases hgt : (ops[j]?).bind (·.dst) with
    | none => simp [hgt] at he
    | some gt =>
      have hog : some (gt, want) = ogOf ops ⟨dst, op, ty, pos, after, some (j, want)⟩ := by simp [ogOf, hgt]
      simp only [hgt] at he
      cases hx : evE fr none (.tmp gt) with
      | none => simp [hx] at he
      | some q =>
        cases q with
        | lp _ _ => simp [hx] at he
        | val x =>
          simp only [hx] at he
          have hxr : VRel φ x (a.tmps.getD gt undef) := evE_sound h.frel.toEnvRel (og := none) (fun _ _ e => by simp at e) hx
          have hw : Region.wanted ⟨dst, op, ty, pos, after, some (j, want)⟩ (yielded ops a.tmps) = true ↔ a.tmps[gt]? = some (.bool want) := by
            simp only [Region.wanted, yielded, hgt, Option.bind_some]
            cases ha : a.tmps[gt]? with
            | none => simp
            | some y => cases y <;> simp
          have hyes : x = .bool want → Region.wanted ⟨dst, op, ty, pos, after, some (j, want)⟩ (yielded ops a.tmps) = true := fun e => by
            subst e
            exact hw.2 (get_of_getD (isB hxr))
          have hno : x ≠ .bool want → ¬ Region.wanted ⟨dst, op, ty, pos, after, some (j, want)⟩ (yielded ops a.tmps) = true := fun hb hq => by
            have h1 := getD_of_get (hw.1 hq)
            rw [h1] at hxr
            exact hb (ofB hxr)
          generalize hcl : clsOf P C an ops fr ⟨dst, op, ty, pos, after, some (j, want)⟩ = cl
          have hsm := fun hc => opR_small (P := P) (C := C) (an := an) (ops := ops) (fr := fr) hlt ⟨dst, op, ty, pos, after, some (j, want)⟩ hog hc
          have hlo := fun hc => opR_loc (P := P) (C := C) (an := an) (ops := ops) (fr := fr) (s := s) ⟨dst, op, ty, pos, after, some (j, want)⟩ hog hc
          rw [hcl] at hsm hlo
          have spec := fun hq : a.tmps[gt]? = some (.bool want) => opR_sound (P := P) (C := C) (an := an) (ops := ops) hC h.frel.toEnvRel (w := w) (s := s)
            (og := some (gt, want)) (fun g b e => by simp only [Option.some.injEq, Prod.mk.injEq] at e; obtain ⟨rfl, rfl⟩ := e; exact hq) ⟨dst, op, ty, pos, after, some (j, want)⟩ hog (fun _ _ => h.frel.loc) (fun _ => h.step.rel)
          unfold StepE
          generalize opR std P C an fr s (some (gt, want)) ⟨dst, op, ty, pos, after, some (j, want)⟩ = y at he spec hsm hlo
          have gdv : ∀ {m : Option Value} {v : Value}, gd x want m = some v → (x = .bool want ∧ m = some v) ∨ (x ≠ .bool want ∧ v = undef) := by
            intro m v hg
            unfold gd at hg
            split at hg
            · rename_i b
              split at hg
              · rename_i e; exact .inl ⟨by rw [e], hg⟩
              · rename_i e; simp only [Option.some.injEq] at hg; exact .inr ⟨fun e2 => e (by simpa using e2), hg.symm⟩
            · rename_i hnb
              simp only [Option.some.injEq] at hg
              exact .inr ⟨fun e2 => hnb _ e2, hg.symm⟩
          cases y with
          | k v =>
            simp only [std, Option.bind_eq_some_iff] at he
            obtain ⟨v', hm, he⟩ := he
            rcases gdv hm with ⟨e, hm⟩ | ⟨hb, rfl⟩
            · simp only [Option.some.injEq] at hm
              subst hm
              rw [if_pos (hyes e)]
              obtain ⟨u, h1, h2⟩ := spec (hw.1 (hyes e))
              exact does_value h1 (after_put h (x := .val v) h2 he)
            · rw [if_neg (hno hb)]
              exact after_put h (x := .val undef) (undef_rel φ) he
          | v m =>
            simp only [std, Option.bind_eq_some_iff] at he
            obtain ⟨v', hm, he⟩ := he
            rcases gdv hm with ⟨e, hm⟩ | ⟨hb, rfl⟩
            · rw [if_pos (hyes e)]
              rcases spec (hw.1 (hyes e)) v' hm with ⟨u, h1, h2⟩ | ⟨_, h1⟩
              · exact does_value h1 (after_put h (x := .val v') h2 he)
              · exact DoesE.mono h1 fun u w' ⟨h2, h3⟩ => after_below h h2 h3 he
            · rw [if_neg (hno hb)]
              exact after_put h (x := .val undef) (undef_rel φ) he
          | s m =>
            simp only at he
            split at he
            · simp at he
            · rename_i hp
              simp only [std, Option.bind_eq_some_iff] at he
              obtain ⟨⟨v, s'⟩, hm, he⟩ := he
              unfold gdS at hm
              split at hm
              · rename_i b
                split at hm
                · rename_i e
                  have e : Value.bool b = .bool want := by rw [e]
                  rw [if_pos (hyes e)]
                  exact DoesE.mono (spec (hw.1 (hyes e)) v s' hm) fun u w' ⟨φ', h2, h3⟩ => after_step h hp h2 h3 (fun hc => hsm hc _ _ hm) he
                · rename_i e
                  simp only [Option.some.injEq, Prod.mk.injEq] at hm
                  obtain ⟨rfl, rfl⟩ := hm
                  rw [if_neg (hno fun e2 => e (by simpa using e2))]
                  exact after_put h (x := .val undef) (undef_rel φ) he
              · rename_i hnb
                simp only [Option.some.injEq, Prod.mk.injEq] at hm
                obtain ⟨rfl, rfl⟩ := hm
                rw [if_neg (hno fun e2 => hnb _ e2)]
                exact after_put h (x := .val undef) (undef_rel φ) he
          | u m =>
            simp only at he
            split at he
            · simp at he
            · rename_i hp
              simp only [std, Option.bind_eq_some_iff] at he
              obtain ⟨s', hm, he⟩ := he
              unfold gdU at hm
              split at hm
              · rename_i b
                split at hm
                · rename_i e
                  have e : Value.bool b = .bool want := by rw [e]
                  rw [if_pos (hyes e)]
                  refine DoesE.mono (spec (hw.1 (hyes e)) s' hm) fun u w' h2 => ?_
                  obtain ⟨rfl, h2⟩ := h2
                  exact after_step h hp h2 (undef_rel _) (fun hc => (hsm hc).elim) he
                · rename_i e
                  simp only [Option.some.injEq] at hm
                  obtain rfl := hm
                  rw [if_neg (hno fun e2 => e (by simpa using e2))]
                  exact after_put h (x := .val undef) (undef_rel φ) he
              · rename_i hnb
                simp only [Option.some.injEq] at hm
                obtain rfl := hm
                rw [if_neg (hno fun e2 => hnb _ e2)]
                exact after_put h (x := .val undef) (undef_rel φ) he
          | p t i =>
            simp only at he
            split
            · rename_i hq
              obtain ⟨c, h1, h2⟩ := spec (hw.1 hq)
              obtain ⟨fr', f1, ⟨f2, f3, _⟩, f4⟩ := h.putG (u := .pointer (some ⟨c, i, none⟩)) (fun _ => ⟨c, h1, rfl⟩) he
              exact does_value h2 ⟨φ, ψ, s, fr', f1, f4, f2, fun _ => .of_eq f3, fun _ t _ => LocSame.at (.of_eq f3) t, fun _ => .refl s, fun x _ ha => ⟨⟨ha.row, by rw [f3]; exact ha.loc⟩, rfl⟩, .refl _⟩
            · rename_i hq
              obtain ⟨fr', f1, ⟨f2, f3, _⟩, f4⟩ := h.putG (u := undef) (fun e => absurd (hw.2 e) hq) he
              exact ⟨φ, ψ, s, fr', f1, f4, f2, fun _ => .of_eq f3, fun _ t _ => LocSame.at (.of_eq f3) t, fun _ => .refl s, fun x _ ha => ⟨⟨ha.row, by rw [f3]; exact ha.loc⟩, rfl⟩, .refl _⟩
          | box t m => simp at he
          | set t m => simp at he
          | pn m => simp at he
          | bad => simp at he

/-- **An operation carried out.** -/
theorem evOp_eff (hC : CtxOk P C) (h : InvA an φ0 s0 w0 φ ψ s fr a w) (o : Oper) (he : evOp std P C an ops o fr s X K = some r) :
    StepX P ops o a w (After an φ0 s0 w0 K r o a fr s (clsOf P C an ops fr o) (slotOf ops fr o) φ ψ w) (Fell an X r fr φ s w) := by
  by_cases hp : ∃ m, o.guard = none ∧ opR std P C an fr s none o = .pn m
  · obtain ⟨m, hg, hm⟩ := hp
    obtain ⟨dst, op, ty, pos, after, guard⟩ := o
    simp only at hg
    subst hg
    have hsm := fun hc => opR_small (P := P) (C := C) (an := an) (ops := ops) (fr := fr) (og := none) h.step.rel.lt ⟨dst, op, ty, pos, after, none⟩ rfl hc
    have spec := opR_sound (P := P) (C := C) (an := an) (ops := ops) (og := none) hC h.frel.toEnvRel (fun _ _ e => by simp at e) ⟨dst, op, ty, pos, after, none⟩ rfl (fun _ _ => h.frel.loc) (fun _ => h.step.rel)
    unfold StepX
    rw [if_pos (by simp [Region.wanted])]
    simp only [evOp, hm] at he
    rw [hm] at spec hsm
    split at he
    · simp at he
    · rename_i hpu
      simp only [std, Option.bind_eq_some_iff] at he
      obtain ⟨⟨b, v, s'⟩, hm2, he⟩ := he
      refine DoesX.mono (spec b v s' hm2) (fun u w' ⟨hb, φ', h2, h3⟩ => ?_) (fun u w' ⟨hb, φ', h2, h3⟩ => ?_)
      · subst hb
        simp only [cnd] at he
        exact after_step h hpu h2 h3 (fun hc => (hsm hc).elim) he
      · subst hb
        simp only [cnd] at he
        exact ⟨hpu, φ', s', v, he, h2, h3⟩
  · exact (evOp_eff0 hC h o he fun hg m hm => hp ⟨m, hg, hm⟩).x

theorem Fell.falls {Q : Exit → Act → World → Prop} (h : InvA an φ0 s0 w0 φ ψ s fr a w) (hX : Falls an φ0 s0 w0 X r Q) {g : Act} (hs : g.tmps.size = a.tmps.size) (hd : g.defers = a.defers) (hg : ∀ t, memT an.keep t = true → g.tmps[t]? = a.tmps[t]?) {u : Value} {w' : World} (hf : Fell an X r fr φ s w u w') :
    Q (.panic [{ v := u, recovered := false }]) g w' := by
  obtain ⟨hp, φ', s', x, h1, h2, h3⟩ := hf
  exact hX φ' ψ s' fr g w' x u ((h.world h2 fun e => absurd e hp).bare an.keep hs hd hg) h3 h1

/-- **A region whose operations come in their order.** -/
theorem evOps_sound (hC : CtxOk P C) {Q : Exit → Act → World → Prop} (hX : Falls an φ0 s0 w0 X r Q) : ∀ (l : List Oper) {φ : Phi} {ψ : Nat → Option Nat} {s : St} {fr : Fr} {a : Act} {w : World}, InvA an φ0 s0 w0 φ ψ s fr a w →
    evOps std P C an ops l fr s X K = some r → (∀ φ' ψ' s' fr' a' w', InvA an φ0 s0 w0 φ' ψ' s' fr' a' w' → K fr' s' = some r → Q .normal a' w') → wpList P ops Q l a w
  | [], φ, ψ, s, fr, a, w, h, he, hK => hK _ _ _ _ _ _ h he
  | o :: l, φ, ψ, s, fr, a, w, h, he, hK => by
    simp only [evOps] at he
    unfold wpList
    exact (evOp_eff hC h o he).wpOp (fun u w' ⟨φ', ψ', s', fr', h1, h2, _⟩ => evOps_sound hC hX l h2 h1 hK) fun u w' hf => hf.falls h hX rfl rfl fun _ _ => rfl

end
end Go.Sim
set_option linter.unusedSimpArgs false
set_option linter.unusedVariables false
namespace Go.Sim
open Go.RowKit (Below)

/-! ### The heap has grown -/

section
variable {s s' : St} (h : Ext s s')
include h

theorem ldc_ext {v x : Value} (e : ldc s v = some x) : ldc s' v = some x := by
  unfold ldc at *
  split at e
  · rename_i b i j
    cases hg : s.get b with
    | none => simp [hg] at e
    | some k => simp only [hg] at e; simp only [h b k hg]; exact e
  · simp at e

theorem lda_ext {n : Nat} {v x : Value} (e : lda s n v = some x) : lda s' n v = some x := by
  unfold lda at *
  split at e
  · rename_i b i j
    cases hg : s.get b with
    | none => simp [hg] at e
    | some k => simp only [hg] at e; simp only [h b k hg]; exact e
  · simp at e

theorem idx_ext {n : Nat} {v i x : Value} (e : idx s n v i = some x) : idx s' n v i = some x := by
  unfold idx at *
  split at e
  · rename_i b i len e0 k m
    split at e
    · rename_i hc
      rw [if_pos hc]
      cases hg : s.get b with
      | none => simp [hg] at e
      | some k => simp only [hg] at e; simp only [h b k hg]; exact e
    · simp at e
  · simp at e

theorem slc_ext {n : Nat} {v x : Value} {lo hi mx : Option Value} (e : slc s n v lo hi mx = some x) : slc s' n v lo hi mx = some x := by
  unfold slc at *
  simp only [Option.bind_eq_some_iff] at e ⊢
  obtain ⟨l, h1, e⟩ := e
  refine ⟨l, h1, ?_⟩
  split at e
  · rename_i b i len e0
    simp only [Option.bind_eq_some_iff] at e ⊢
    obtain ⟨m, h2, e⟩ := e
    refine ⟨m, h2, ?_⟩
    cases hg : s.get b with
    | none => simp [hg] at e
    | some k => simp only [hg] at e; simp only [h b k hg]; exact e
  · exact e
  · simp at e

theorem rowsOf_ext {n m : Nat} {v : Value} {x : List (List Value)} (e : rowsOf s n m v = some x) : rowsOf s' n m v = some x := by
  unfold rowsOf at *
  split at e
  · rename_i b i len e0
    cases hg : s.get b with
    | none => simp [hg] at e
    | some k => simp only [hg] at e; simp only [h b k hg]; exact e
  · exact e
  · exact e
  · simp at e

theorem lenM_ext {v x : Value} (e : lenM s v = some x) : lenM s' v = some x := by
  unfold lenM at *
  split at e
  · exact e
  · rename_i b
    cases hg : s.get b with
    | none => simp [hg] at e
    | some k => simp only [hg] at e; simp only [h b k hg]; exact e
  · simp at e

theorem b2s_ext {v x : Value} (e : b2s s v = some x) : b2s s' v = some x := by
  unfold b2s at *
  simp only [Option.bind_eq_some_iff] at e ⊢
  obtain ⟨l, h1, e⟩ := e
  refine ⟨l, h1, ?_⟩
  split at e
  · simp only [Option.bind_eq_some_iff] at e ⊢
    obtain ⟨rows, h2, e⟩ := e
    exact ⟨rows, rowsOf_ext h h2, e⟩
  · simp at e

theorem lkp_ext {ks : List Nat} {agg ok : Bool} {z m k x : Value} (e : lkp s ks agg z ok m k = some x) : lkp s' ks agg z ok m k = some x := by
  unfold lkp at *
  split at e
  · rename_i hk
    rw [if_pos hk]
    split at e
    · exact e
    · rename_i b
      cases hg : s.get b with
      | none => simp [hg] at e
      | some k => simp only [hg] at e; simp only [h b k hg]; exact e
    · simp at e
  · simp at e

end

/-! ### Operands -/

section
variable {P : Program} {C : Ctx} {an : An} {s s' : St} {fr fr' : Fr} {ops : Array Oper} {og : Option (Nat × Bool)}

/-- These temporaries stand in both frames alike. -/
def SameOn (ts : List Nat) (fr fr' : Fr) : Prop := ∀ t ∈ ts, lookE fr'.e t = lookE fr.e t ∧ lookG fr'.g t = lookG fr.g t

def Same (fr fr' : Fr) (x : Operand) : Prop := ∀ og, evE fr' og x = evE fr og x

theorem evE_same {x : Operand} (h : ∀ t, x = .tmp t → lookE fr'.e t = lookE fr.e t ∧ lookG fr'.g t = lookG fr.g t) : Same fr fr' x := by
  intro og
  cases x with
  | tmp t => obtain ⟨h1, h2⟩ := h t rfl; simp only [evE, h1, h2]
  | _ => rfl

theorem SameOn.op {o : Oper} (h : SameOn (o.looksAt ops) fr fr') {x : Operand} (hx : x ∈ o.op.operands) : Same fr fr' x :=
  evE_same fun t ht => h t (List.mem_append_left _ (List.mem_filterMap.2 ⟨.tmp t, by rw [← ht]; simpa using hx, rfl⟩))

theorem SameOn.guard {o : Oper} {g gt : Nat} {w : Bool} (h : SameOn (o.looksAt ops) fr fr') (hg : o.guard = some (g, w)) (hd : (ops[g]?).bind (·.dst) = some gt) : Same fr fr' (.tmp gt) :=
  evE_same fun t ht => by
    simp only [Operand.tmp.injEq] at ht
    subst ht
    exact h gt (List.mem_append_right _ (by simp [hg, hd]))

theorem Same.v {x : Operand} (h : Same fr fr' x) : evV fr' x = evV fr x := by unfold evV; rw [h none]

theorem same_vs : ∀ {l : List Operand}, (∀ x ∈ l, Same fr fr' x) → evVs fr' l = evVs fr l
  | [], _ => rfl
  | x :: l, h => by simp only [evVs, (h x (by simp)).v, same_vs (l := l) fun y hy => h y (by simp [hy])]

theorem same_ps : ∀ {l : List (Nat × Operand)}, (∀ q ∈ l, Same fr fr' q.2) → evPs fr' l = evPs fr l
  | [], _ => rfl
  | (i, x) :: l, h => by simp only [evPs, (h (i, x) (by simp)).v, same_ps (l := l) fun y hy => h y (by simp [hy])]

theorem same_o {x : Option Operand} (h : ∀ y, x = some y → Same fr fr' y) : evO fr' x = evO fr x := by
  cases x with
  | none => rfl
  | some x => simp only [evO, (h x rfl).v]

/-- What an operation reads as. -/
def Val1 : OpR → Ent → Prop
  | .k v, x => x = .val v
  | .v m, x => ∃ v, m = some v ∧ x = .val v
  | .p t j, x => x = .lp t j
  | _, _ => False

theorem clsOf_same {o : Oper} (hs : SameOn (o.looksAt ops) fr fr') : clsOf P C an ops fr' o = clsOf P C an ops fr o := by
  obtain ⟨dst, op, ty, pos, after, guard⟩ := o
  cases op
  case load t x => simp only [clsOf, hs.op (x := x) (by simp [Op.operands]) _]
  case store t x y => simp only [clsOf, hs.op (x := x) (by simp [Op.operands]) _]
  case call c =>
    obtain ⟨callee, args, ats⟩ := c
    cases callee with
    | value x => cases x <;> rfl
    | invoke _ _ => rfl
    | builtin b => rfl
  all_goals rfl

theorem slotOf_same {o : Oper} (hs : SameOn (o.looksAt ops) fr fr') : slotOf ops fr' o = slotOf ops fr o := by
  obtain ⟨dst, op, ty, pos, after, guard⟩ := o
  cases op
  case load t x => simp only [slotOf, hs.op (x := x) (by simp [Op.operands]) _]
  case store t x y => simp only [slotOf, hs.op (x := x) (by simp [Op.operands]) _]
  all_goals rfl

theorem codeOf_same {o : Oper} (hs : SameOn (o.looksAt ops) fr fr') : codeOf P C an ops fr' o = codeOf P C an ops fr o := by
  unfold codeOf
  rw [clsOf_same hs, slotOf_same hs]

theorem clsOf_lt {o : Oper} : clsOf P C an ops fr o < 8 := by
  unfold clsOf
  repeat (first | decide | split)

theorem mod_help (c s : Nat) (h : c < 8) : (c + 8 * s) % 8 = c := by omega
theorem div_help (c s : Nat) (h : c < 8) : (c + 8 * s) / 8 = s := by omega

theorem code_mod {o : Oper} : codeOf P C an ops fr o % 8 = clsOf P C an ops fr o := mod_help _ _ clsOf_lt

theorem code_div {o : Oper} : codeOf P C an ops fr o / 8 = slotOf ops fr o := div_help _ _ (clsOf_lt (P := P) (C := C) (an := an))

theorem val_v {m m' : Option Value} {x : Ent} (h : Val1 (.v m) x) (he : ∀ v, m = some v → m' = some v) : Val1 (.v m') x := by
  obtain ⟨v, h1, h2⟩ := h
  exact ⟨v, he v h1, h2⟩

theorem builtin_same {b : Builtin} {ts : List TypeId} {vs : List Value} {x : Ent} (h : Ext s s') (hv : Val1 (builtinR P b ts vs s) x) : Val1 (builtinR P b ts vs s') x := by
  unfold builtinR at *
  split at hv
  · split at hv
    · exact hv
    · exact hv
    · exact val_v hv fun v => lenM_ext h
    · exact hv
  · exact hv
  · exact hv
  · repeat (first | exact hv.elim | split at hv)
  · repeat (first | exact hv.elim | split at hv)
  · exact hv.elim

theorem builtin_same0 {b : Builtin} {ts : List TypeId} {vs : List Value} {x : Ent} (h : b = .min ∨ b = .max) (hv : Val1 (builtinR P b ts vs s) x) : Val1 (builtinR P b ts vs s') x := by
  unfold builtinR at *
  split at hv
  · simp at h
  · exact hv
  · exact hv
  · simp at h
  · simp at h
  · exact hv.elim

theorem opR_congr {o : Oper} {x : Ent} (hog : og = ogOf ops o) (hc : clsOf P C an ops fr o ≤ 2) (hs : SameOn (o.looksAt ops) fr fr') (hl : clsOf P C an ops fr o = 1 → LocAt (slotOf ops fr o) fr fr') (he : clsOf P C an ops fr o = 2 → Ext s s')
    (hv : Val1 (opR std P C an fr s og o) x) : Val1 (opR std P C an fr' s' og o) x := by
  obtain ⟨dst, op, ty, pos, after, guard⟩ := o
  cases op
  case move y => simp only [opR, hs.op (x := y) (by simp [Op.operands]) _] at hv ⊢; exact hv
  case assign y => simp only [opR, hs.op (x := y) (by simp [Op.operands]) _] at hv ⊢; exact hv
  case nilCheck y => simp only [opR, hs.op (x := y) (by simp [Op.operands]) _] at hv ⊢; exact hv
  case fieldAddr t y f => simp only [opR, hs.op (x := y) (by simp [Op.operands]) _] at hv ⊢; exact hv
  case pick c y z => simp only [opR, (hs.op (x := c) (by simp [Op.operands])).v, (hs.op (x := y) (by simp [Op.operands])).v, (hs.op (x := z) (by simp [Op.operands])).v] at hv ⊢; exact hv
  case binOp b t y z u => simp only [opR, (hs.op (x := y) (by simp [Op.operands])).v, (hs.op (x := z) (by simp [Op.operands])).v] at hv ⊢; exact hv
  case unOp b t y => simp only [opR, (hs.op (x := y) (by simp [Op.operands])).v] at hv ⊢; exact hv
  case makeInterface t y => simp only [opR, (hs.op (x := y) (by simp [Op.operands])).v] at hv ⊢; exact hv
  case makeFunc fn f c =>
    simp only [opR, same_vs (fr := fr) (fr' := fr') (l := f.toList) fun y hy => hs.op (by simp only [Op.operands]; simp at hy ⊢; exact .inl hy),
      same_vs (fr := fr) (fr' := fr') (l := c.toList) fun y hy => hs.op (by simp only [Op.operands]; simp at hy ⊢; exact .inr hy)] at hv ⊢
    exact hv
  case build t ps =>
    simp only [opR, same_ps (fr := fr) (fr' := fr') (l := ps.toList) fun q hq => hs.op (by simp only [Op.operands]; simp at hq ⊢; exact ⟨q.1, hq⟩)] at hv ⊢
    exact hv
  case field t y f => simp only [opR, (hs.op (x := y) (by simp [Op.operands])).v] at hv ⊢; exact hv
  case index t y z => simp only [opR, (hs.op (x := y) (by simp [Op.operands])).v, (hs.op (x := z) (by simp [Op.operands])).v] at hv ⊢; exact hv
  case typeAssert y xt t ok => simp [clsOf] at hc
  case extract y i => simp only [opR, (hs.op (x := y) (by simp [Op.operands])).v] at hv ⊢; exact hv
  case load t y =>
    simp only [clsOf, slotOf, ← hog] at hc hl he
    simp only [opR, hs.op (x := y) (by simp [Op.operands]) _] at hv ⊢
    cases hy : evE fr og y with
    | none =>
      rw [hy] at hv
      split at hv <;> first | exact hv.elim | simp_all
    | some q =>
      rw [hy] at hv he hl
      cases q with
      | val u =>
        have hx := he rfl
        split at hv
        · exact val_v hv fun v => lda_ext hx
        · exact val_v hv fun v => ldc_ext hx
        · simp_all
        · exact hv.elim
      | lp t' j =>
        have hlk : lookL fr'.l t' = lookL fr.l t' := by
          refine hl rfl ?_
          cases y with
          | tmp t0 =>
            simp only [evE] at hy
            cases hg : lookG fr.g t0 with
            | none => rw [hg] at hy; exact .inl ⟨t0, j, hy⟩
            | some q =>
              obtain ⟨t1, j1, gt1, b1⟩ := q
              rw [hg] at hy
              simp only at hy
              refine .inr ⟨t0, j1, gt1, b1, ?_⟩
              split at hy
              · simp at hy
              · split at hy
                · split at hy
                  · simp only [Option.some.injEq, Ent.lp.injEq] at hy
                    rw [hg, hy.1]
                  · simp at hy
                · simp at hy
          | const v => simp only [evE] at hy; split at hy <;> simp at hy
          | global g => simp [evE] at hy
          | func f => simp [evE] at hy
        split at hv
        · simp_all
        · simp_all
        · rename_i h1 h2 h3
          simp only [Option.some.injEq, Ent.lp.injEq] at h3
          obtain ⟨rfl, rfl⟩ := h3
          simp only [h1, h2, hlk]
          exact hv
        · exact hv.elim
  case convert src dt y =>
    simp only [clsOf] at hc he
    simp only [opR, (hs.op (x := y) (by simp [Op.operands])).v] at hv ⊢
    split at hv
    · exact hv
    · exact hv
    · rename_i e u h1 h2 h3
      rw [h1, h2] at he
      have hx := he rfl
      split at hv
      · exact val_v hv fun v => b2s_ext hx
      · exact hv.elim
    · rename_i h1 h2 h3
      exfalso
      simp [h1, h2] at hc
    · exact hv.elim
  case slice t y lo hi mx =>
    have hx := he rfl
    simp only [opR, (hs.op (x := y) (by simp [Op.operands])).v, same_o (fr := fr) (fr' := fr') (x := lo) fun z hz => hs.op (by subst hz; simp [Op.operands]),
      same_o (fr := fr) (fr' := fr') (x := hi) fun z hz => hs.op (by subst hz; simp [Op.operands]), same_o (fr := fr) (fr' := fr') (x := mx) fun z hz => hs.op (by subst hz; simp [Op.operands])] at hv ⊢
    split at hv
    · exact hv
    · split at hv
      · split at hv
        · exact hv.elim
        · rename_i hb
          rw [if_neg hb]
          exact val_v hv fun v => slc_ext hx
      · exact hv.elim
    · exact hv.elim
  case indexAddr t y z =>
    simp only [clsOf] at he
    simp only [opR, hs.op (x := y) (by simp [Op.operands]) _, (hs.op (x := z) (by simp [Op.operands])).v] at hv ⊢
    split at hv
    · rename_i h1 _ _
      rw [h1] at he
      have hx := he rfl
      split at hv
      · exact val_v hv fun v => idx_ext hx
      · exact hv.elim
    · exact hv
    · exact hv.elim
  case lookup t y z ok =>
    have hx := he rfl
    simp only [opR, (hs.op (x := y) (by simp [Op.operands])).v, (hs.op (x := z) (by simp [Op.operands])).v] at hv ⊢
    split at hv
    · split at hv
      · split at hv
        · rename_i hb
          rw [if_pos hb]
          exact val_v hv fun v => lkp_ext hx
        · exact hv.elim
      · exact hv.elim
    · exact hv.elim
  case call c =>
    obtain ⟨callee, args, ats⟩ := c
    simp only [opR, same_vs (fr := fr) (fr' := fr') (l := args.toList) fun y hy => hs.op (by simp only [Op.operands, Call.operands]; simp at hy ⊢; exact .inr hy)] at hv ⊢
    split at hv
    · exact hv.elim
    · cases callee with
      | value y =>
        exfalso
        cases y <;> simp only [clsOf] at hc <;> (try split at hc) <;> simp at hc
      | invoke _ _ => simp [clsOf] at hc
      | builtin b =>
        cases b <;> simp only [clsOf] at hc he <;> first
          | (simp at hc; done)
          | exact builtin_same (he trivial) hv
          | exact builtin_same0 (.inl rfl) hv
          | exact builtin_same0 (.inr rfl) hv
  case alloc t => exfalso; simp only [clsOf] at hc; split at hc <;> (try split at hc) <;> simp at hc
  case box t y => exfalso; simp only [clsOf] at hc; split at hc <;> (try split at hc) <;> simp at hc
  case store t y z => exfalso; simp only [clsOf] at hc; split at hc <;> simp at hc
  all_goals (simp [clsOf] at hc)

end
end Go.Sim
set_option linter.unusedSimpArgs false
set_option linter.unusedVariables false
namespace Go.Sim
open Go.RowKit (Below)

section
variable {P : Program} {C : Ctx} {an : An} {φ0 φ : Phi} {ψ : Nat → Option Nat} {s0 s s' : St} {w0 w : World} {fr fr' : Fr} {a g : Act} {ops : Array Oper} {R : Type} {K : Fr → St → Option R} {X : Value → Fr → St → Option R} {r : R}

/-! ### A reading, by itself -/

def PV (P : Program) (C : Ctx) (an : An) (ops : Array Oper) (fr : Fr) (s : St) (o : Oper) (x : Ent) : Prop :=
  (o.guard = none ∧ Val1 (opR std P C an fr s none o) x) ∨
  ∃ j want gt y, o.guard = some (j, want) ∧ (ops[j]?).bind (·.dst) = some gt ∧ evE fr none (.tmp gt) = some (.val y) ∧
    ((y = .bool want ∧ Val1 (opR std P C an fr s (some (gt, want)) o) x) ∨ (y ≠ .bool want ∧ x = .val undef))

def ReadR : OpR → Prop
  | .k _ => True
  | .v _ => True
  | .p _ _ => True
  | .bad => True
  | _ => False

theorem read_builtin {b : Builtin} {ts : List TypeId} {vs : List Value} (hb : b = .len ∨ b = .min ∨ b = .max) : ReadR (builtinR P b ts vs s) := by
  unfold builtinR
  split
  · split <;> exact trivial
  · exact trivial
  · exact trivial
  · simp at hb
  · simp at hb
  · exact trivial

theorem opR_read {og : Option (Nat × Bool)} (o : Oper) (hc : clsOf P C an ops fr o ≤ 2) : ReadR (opR std P C an fr s og o) := by
  obtain ⟨dst, op, ty, pos, after, guard⟩ := o
  cases op
  case alloc t => exfalso; simp only [clsOf] at hc; split at hc <;> (try split at hc) <;> simp at hc
  case box t y => exfalso; simp only [clsOf] at hc; split at hc <;> (try split at hc) <;> simp at hc
  case store t y z => exfalso; simp only [clsOf] at hc; split at hc <;> simp at hc
  case buildSlice t n ps => simp [clsOf] at hc
  case makeSlice t l c => simp [clsOf] at hc
  case makeMap t o => simp [clsOf] at hc
  case convert src dt x =>
    simp only [opR]
    split
    · exact trivial
    · exact trivial
    · split <;> exact trivial
    · rename_i h1 h2 h3
      simp [clsOf, h1, h2] at hc
    · exact trivial
  case panic x => simp [clsOf] at hc
  case mapUpdate t x k y => simp [clsOf] at hc
  case insert t x k y => simp [clsOf] at hc
  case call c =>
    obtain ⟨callee, args, ats⟩ := c
    simp only [opR]
    split
    · exact trivial
    · cases callee with
      | value x =>
        exfalso
        cases x <;> simp only [clsOf] at hc <;> (try split at hc) <;> simp at hc
      | invoke _ _ => simp [clsOf] at hc
      | builtin b => cases b <;> first | (simp [clsOf] at hc; done) | exact read_builtin (.inl rfl) | exact read_builtin (.inr (.inl rfl)) | exact read_builtin (.inr (.inr rfl))
  all_goals (simp only [opR]; repeat (first | exact trivial | split))

/-- Where a reading's value stands in the frame. -/
inductive Slot where
  | e (x : Ent)
  | g (t i gt : Nat) (want : Bool)

def PS (P : Program) (C : Ctx) (an : An) (ops : Array Oper) (fr : Fr) (s : St) (o : Oper) : Slot → Prop
  | .e x => PV P C an ops fr s o x
  | .g t i gt want => ∃ j, o.guard = some (j, want) ∧ (ops[j]?).bind (·.dst) = some gt ∧ (∃ y, evE fr none (.tmp gt) = some (.val y)) ∧ Val1 (opR std P C an fr s (some (gt, want)) o) (.lp t i)

def putS (N : Nat) (fr : Fr) (d : Option Nat) (sl : Slot) (K : Fr → Option R) : Option R :=
  match sl with
  | .e x => putK N fr d x K
  | .g t i gt want => putGK N fr d t i gt want K

def SlotIn (fr : Fr) (d : Nat) : Slot → Prop
  | .e x => lookE fr.e d = some x ∧ lookG fr.g d = none
  | .g t i gt want => lookG fr.g d = some (t, i, gt, want) ∧ lookE fr.e d = none

def SlotRel (φ : Phi) (ψ : Nat → Option Nat) (a : Act) (sl : Slot) (u : Value) : Prop :=
  match sl with
  | .e x => EntRel φ ψ x u
  | .g t i gt want => (∀ b, u ≠ .bool b) ∧ (a.tmps[gt]? = some (.bool want) → ∃ c, ψ t = some c ∧ u = .pointer (some ⟨c, i, none⟩))

theorem SlotIn.keep {d : Nat} {sl : Slot} {dd : Option Nat} (h : SlotIn fr d sl) (hk : Keeps fr fr' dd) (hd : dd ≠ some d) : SlotIn fr' d sl := by
  cases sl <;> simp only [SlotIn, hk.e d hd, hk.g d hd] at h ⊢ <;> exact h

theorem evOp_float {o : Oper} (hc : clsOf P C an ops fr o ≤ 2) (he : evOp std P C an ops o fr s X K = some r) : ∃ sl, PS P C an ops fr s o sl ∧ putS an.N fr o.dst sl (fun fr => K fr s) = some r := by
  have hrd := fun og => opR_read (P := P) (C := C) (an := an) (s := s) (ops := ops) (fr := fr) (og := og) o hc
  obtain ⟨dst, op, ty, pos, after, guard⟩ := o
  cases guard with
  | none =>
    have hrd := hrd none
    simp only [evOp] at he
    cases hx : opR std P C an fr s none ⟨dst, op, ty, pos, after, none⟩ <;> rw [hx] at he hrd <;> simp only at he
    case k v => exact ⟨.e (.val v), .inl ⟨rfl, by rw [hx]; exact rfl⟩, he⟩
    case v m =>
      simp only [std, Option.bind_eq_some_iff] at he
      obtain ⟨v, hm, he⟩ := he
      exact ⟨.e (.val v), .inl ⟨rfl, by rw [hx]; exact ⟨v, hm, rfl⟩⟩, he⟩
    case p t j => exact ⟨.e (.lp t j), .inl ⟨rfl, by rw [hx]; exact rfl⟩, he⟩
    case bad => simp at he
    all_goals exact hrd.elim
  | some jw =>
    obtain ⟨j, want⟩ := jw
    simp only [evOp] at he
    cases hgt : (ops[j]?).bind (·.dst) with
    | none => simp [hgt] at he
    | some gt =>
      have hog : some (gt, want) = ogOf ops ⟨dst, op, ty, pos, after, some (j, want)⟩ := by simp [ogOf, hgt]
      have hrd := hrd (some (gt, want))
      simp only [hgt] at he
      cases hx : evE fr none (.tmp gt) with
      | none => simp [hx] at he
      | some q =>
        cases q with
        | lp _ _ => simp [hx] at he
        | val x =>
          simp only [hx] at he
          have gdv : ∀ {m : Option Value} {v : Value}, gd x want m = some v → (x = .bool want ∧ m = some v) ∨ (x ≠ .bool want ∧ v = undef) := by
            intro m v hg
            unfold gd at hg
            split at hg
            · rename_i b
              split at hg
              · rename_i e; exact .inl ⟨by rw [e], hg⟩
              · rename_i e; simp only [Option.some.injEq] at hg; exact .inr ⟨fun e2 => e (by simpa using e2), hg.symm⟩
            · rename_i hnb
              simp only [Option.some.injEq] at hg
              exact .inr ⟨fun e2 => hnb _ e2, hg.symm⟩
          cases hy : opR std P C an fr s (some (gt, want)) ⟨dst, op, ty, pos, after, some (j, want)⟩ <;> rw [hy] at he hrd <;> simp only at he
          case k v =>
            simp only [std, Option.bind_eq_some_iff] at he
            obtain ⟨v', hm, he⟩ := he
            rcases gdv hm with ⟨rfl, hm2⟩ | ⟨hb, rfl⟩
            · exact ⟨.e (.val v'), .inr ⟨j, want, gt, _, rfl, hgt, hx, .inl ⟨rfl, by rw [hy]; simp only [Option.some.injEq] at hm2; rw [hm2]; exact rfl⟩⟩, he⟩
            · exact ⟨.e (.val undef), .inr ⟨j, want, gt, _, rfl, hgt, hx, .inr ⟨hb, rfl⟩⟩, he⟩
          case v m =>
            simp only [std, Option.bind_eq_some_iff] at he
            obtain ⟨v', hm, he⟩ := he
            rcases gdv hm with ⟨rfl, hm2⟩ | ⟨hb, rfl⟩
            · exact ⟨.e (.val v'), .inr ⟨j, want, gt, _, rfl, hgt, hx, .inl ⟨rfl, by rw [hy]; exact ⟨v', hm2, rfl⟩⟩⟩, he⟩
            · exact ⟨.e (.val undef), .inr ⟨j, want, gt, _, rfl, hgt, hx, .inr ⟨hb, rfl⟩⟩, he⟩
          case p t i => exact ⟨.g t i gt want, ⟨j, rfl, hgt, ⟨x, hx⟩, by rw [hy]; exact rfl⟩, he⟩
          case bad => simp at he
          all_goals exact hrd.elim

/-- What a reading leaves, and nothing else. -/
def Yld (P : Program) (ops : Array Oper) (o : Oper) (a : Act) (w : World) (u : Value) : Prop :=
  (Region.wanted o (yielded ops a.tmps) = true ∧ Gives P o a w u) ∨ (Region.wanted o (yielded ops a.tmps) = false ∧ u = undef)

theorem val1_sound {o : Oper} {x : Ent} {y : OpR} (hnc : ¬ ∃ c f, o.op = .call c ∧ c.callee = .value (.func f)) (h : OpSpec P φ ψ fr s o a w y) (hv : Val1 y x) : ∃ u, Gives P o a w u ∧ EntRel φ ψ x u := by
  cases y with
  | k v => cases hv; exact h
  | v m =>
    obtain ⟨v, h1, rfl⟩ := hv
    rcases h v h1 with h2 | ⟨h2, _⟩
    · exact h2
    · exact absurd h2 hnc
  | p t j =>
    cases hv
    obtain ⟨c, h1, h2⟩ := h
    exact ⟨_, h2, c, h1, rfl⟩
  | _ => exact hv.elim

theorem PV_sound (hC : CtxOk P C) (h : InvA an φ0 s0 w0 φ ψ s fr a w) {o : Oper} {x : Ent} (hc : clsOf P C an ops fr o ≤ 2) (hv : PV P C an ops fr s o x) : ∃ u, Yld P ops o a w u ∧ EntRel φ ψ x u := by
  have hnc : ¬ ∃ c f, o.op = .call c ∧ c.callee = .value (.func f) := by
    rintro ⟨c, f, h1, h2⟩
    obtain ⟨callee, args, ats⟩ := c
    simp only at h2
    subst h2
    simp only [clsOf, h1] at hc
    split at hc <;> simp at hc
  rcases hv with ⟨hg, hv⟩ | ⟨j, want, gt, b, hg, hgt, hx, hv⟩
  · have spec := opR_sound (P := P) (C := C) (an := an) (ops := ops) (og := none) hC h.frel.toEnvRel (fun _ _ e => by simp at e) o (by simp [ogOf, hg]) (fun _ _ => h.frel.loc) (fun _ => h.step.rel)
    obtain ⟨u, h1, h2⟩ := val1_sound hnc spec hv
    exact ⟨u, .inl ⟨by simp [Region.wanted, hg], h1⟩, h2⟩
  · have hog : some (gt, want) = ogOf ops o := by simp [ogOf, hg, hgt]
    have hxr : VRel φ b (a.tmps.getD gt undef) := evE_sound h.frel.toEnvRel (og := none) (fun _ _ e => by simp at e) hx
    have hw : Region.wanted o (yielded ops a.tmps) = true ↔ a.tmps[gt]? = some (.bool want) := by
      simp only [Region.wanted, yielded, hg, hgt, Option.bind_some]
      cases ha : a.tmps[gt]? with
      | none => simp
      | some y => cases y <;> simp
    rcases hv with ⟨rfl, hv⟩ | ⟨hb, rfl⟩
    · have hget := get_of_getD (isB hxr)
      have spec := opR_sound (P := P) (C := C) (an := an) (ops := ops) hC h.frel.toEnvRel (w := w) (s := s)
        (og := some (gt, want)) (fun g b e => by simp only [Option.some.injEq, Prod.mk.injEq] at e; obtain ⟨rfl, rfl⟩ := e; exact hget) o hog (fun _ _ => h.frel.loc) (fun _ => h.step.rel)
      obtain ⟨u, h1, h2⟩ := val1_sound hnc spec hv
      exact ⟨u, .inl ⟨hw.2 hget, h1⟩, h2⟩
    · refine ⟨undef, .inr ⟨by
        rw [← Bool.not_eq_true]
        intro hq
        have h1 := getD_of_get (hw.1 hq)
        rw [h1] at hxr
        exact hb (ofB hxr), rfl⟩, undef_rel φ⟩

theorem PV_keep {o : Oper} {x : Ent} (hc : clsOf P C an ops fr o ≤ 2) (hs : SameOn (o.looksAt ops) fr fr') (hl : clsOf P C an ops fr o = 1 → LocAt (slotOf ops fr o) fr fr') (he : clsOf P C an ops fr o = 2 → Ext s s')
    (hv : PV P C an ops fr s o x) : PV P C an ops fr' s' o x := by
  rcases hv with ⟨hg, hv⟩ | ⟨j, want, gt, b, hg, hgt, hx, hv⟩
  · exact .inl ⟨hg, opR_congr (by simp [ogOf, hg]) hc hs hl he hv⟩
  · refine .inr ⟨j, want, gt, b, hg, hgt, by rw [hs.guard hg hgt]; exact hx, ?_⟩
    rcases hv with ⟨h1, hv⟩ | hv
    · exact .inl ⟨h1, opR_congr (by simp [ogOf, hg, hgt]) hc hs hl he hv⟩
    · exact .inr hv

theorem PS_sound (hC : CtxOk P C) (h : InvA an φ0 s0 w0 φ ψ s fr a w) {o : Oper} {sl : Slot} (hc : clsOf P C an ops fr o ≤ 2) (hv : PS P C an ops fr s o sl) : ∃ u, Yld P ops o a w u ∧ SlotRel φ ψ a sl u := by
  cases sl with
  | e x => exact PV_sound hC h hc hv
  | g t i gt want =>
    obtain ⟨j, hg, hgt, _, hv⟩ := hv
    have hnc : ¬ ∃ c f, o.op = .call c ∧ c.callee = .value (.func f) := by
      rintro ⟨c, f, h1, h2⟩
      obtain ⟨callee, args, ats⟩ := c
      simp only at h2
      subst h2
      simp only [clsOf, h1] at hc
      split at hc <;> simp at hc
    have hog : some (gt, want) = ogOf ops o := by simp [ogOf, hg, hgt]
    have hw : Region.wanted o (yielded ops a.tmps) = true ↔ a.tmps[gt]? = some (.bool want) := by
      simp only [Region.wanted, yielded, hg, hgt, Option.bind_some]
      cases ha : a.tmps[gt]? with
      | none => simp
      | some y => cases y <;> simp
    by_cases hq : a.tmps[gt]? = some (.bool want)
    · have spec := opR_sound (P := P) (C := C) (an := an) (ops := ops) hC h.frel.toEnvRel (w := w) (s := s)
        (og := some (gt, want)) (fun g b e => by simp only [Option.some.injEq, Prod.mk.injEq] at e; obtain ⟨rfl, rfl⟩ := e; exact hq) o hog (fun _ _ => h.frel.loc) (fun _ => h.step.rel)
      obtain ⟨u, h1, c, h2, rfl⟩ := val1_sound hnc spec hv
      exact ⟨_, .inl ⟨hw.2 hq, h1⟩, fun b e => by simp at e, fun _ => ⟨c, h2, rfl⟩⟩
    · refine ⟨undef, .inr ⟨by simpa using fun e => hq (hw.1 e), rfl⟩, fun b e => by simp [undef] at e, fun e => absurd e hq⟩

theorem PS_keep {o : Oper} {sl : Slot} (hc : clsOf P C an ops fr o ≤ 2) (hs : SameOn (o.looksAt ops) fr fr') (hl : clsOf P C an ops fr o = 1 → LocAt (slotOf ops fr o) fr fr') (he : clsOf P C an ops fr o = 2 → Ext s s')
    (hv : PS P C an ops fr s o sl) : PS P C an ops fr' s' o sl := by
  cases sl with
  | e x => exact PV_keep hc hs hl he hv
  | g t i gt want =>
    obtain ⟨j, hg, hgt, hy, hv⟩ := hv
    exact ⟨j, hg, hgt, by rw [hs.guard hg hgt]; exact hy, opR_congr (by simp [ogOf, hg, hgt]) hc hs hl he hv⟩

theorem Inv.putS {p : Bool} {N : Nat × List Deferred} (h : Inv p N φ0 s0 w0 φ ψ s fr g w) {d : Option Nat} {sl : Slot} {u : Value} {KK : Fr → Option R} (hx : SlotRel φ ψ g sl u) (hk : Sim.putS N.1 fr d sl KK = some r) :
    ∃ fr', KK fr' = some r ∧ (Keeps fr fr' d ∧ fr'.l = fr.l ∧ ∀ d', d = some d' → SlotIn fr' d' sl) ∧ Inv p N φ0 s0 w0 φ ψ s fr' (g.put d u) w := by
  cases sl with
  | e x => exact h.put hx hk
  | g t i gt want => exact h.putG hx.2 hk

/-! ### States that differ in what is not looked at -/

theorem eval_of_get {x : Operand} (h : ∀ t, x = .tmp t → a.tmps[t]? = g.tmps[t]?) : a.eval x = g.eval x := by
  cases x with
  | tmp t => simp only [Act.eval, Array.getD_eq_getD_getElem?, h t rfl]
  | _ => rfl

theorem exec_same {o : Oper} (hs : ∀ cs b, o.op ≠ .select cs b) (h : ∀ t ∈ o.looksAt ops, a.tmps[t]? = g.tmps[t]?) :
    execOp a.eval o = execOp g.eval o ∧ Region.wanted o (yielded ops a.tmps) = Region.wanted o (yielded ops g.tmps) := by
  constructor
  · exact execOp_congr o hs fun x hx => eval_of_get fun t ht => h t (List.mem_append_left _ (List.mem_filterMap.2 ⟨.tmp t, by rw [← ht]; simpa using hx, rfl⟩))
  · unfold Region.wanted
    cases hg : o.guard with
    | none => rfl
    | some q =>
      obtain ⟨j, want⟩ := q
      simp only [yielded]
      cases hd : (ops[j]?).bind (·.dst) with
      | none => rfl
      | some d =>
        simp only [Option.bind_some]
        rw [h d (List.mem_append_right _ (by simp [hg, hd]))]

theorem StepE.same {o : Oper} {X : Value → World → Prop} (hs : ∀ cs b, o.op ≠ .select cs b) (h : ∀ t ∈ o.looksAt ops, a.tmps[t]? = g.tmps[t]?) (hx : StepE P ops o g w X) : StepE P ops o a w X := by
  obtain ⟨h1, h2⟩ := exec_same hs h
  unfold StepE Does at *
  rw [h1, h2]
  exact hx

theorem StepX.same {o : Oper} {Y Z : Value → World → Prop} (hs : ∀ cs b, o.op ≠ .select cs b) (h : ∀ t ∈ o.looksAt ops, a.tmps[t]? = g.tmps[t]?) (hx : StepX P ops o g w Y Z) : StepX P ops o a w Y Z := by
  obtain ⟨h1, h2⟩ := exec_same hs h
  unfold StepX at *
  rw [h1, h2]
  exact hx

theorem Yld.step {o : Oper} {u : Value} {X : Value → World → Prop} (h : Yld P ops o g w u) (hx : X u w) : StepE P ops o g w X := by
  unfold StepE
  rcases h with ⟨h1, h2⟩ | ⟨h1, rfl⟩
  · rw [if_pos h1]
    exact does_value h2 hx
  · rw [if_neg (by simp [h1])]
    exact hx

/-- A temporary written anew with what stands for the same. -/
theorem Inv.reputE {p : Bool} {N : Nat × List Deferred} (h : Inv p N φ0 s0 w0 φ ψ s fr g w) {d : Option Nat} {x : Ent} {u : Value} (hd : ∀ d', d = some d' → lookE fr.e d' = some x ∧ lookG fr.g d' = none) (hx : EntRel φ ψ x u) :
    Inv p N φ0 s0 w0 φ ψ s fr (g.put d u) w := by
  cases d with
  | none => exact h
  | some d =>
    obtain ⟨h1, h2⟩ := hd d rfl
    obtain ⟨hlt, hold⟩ := h.frel.env d x h1
    refine ⟨h.step, ⟨⟨fun t y hy => ?_, fun t t' j gt b hl => ?_⟩, h.frel.loc⟩, h.apart, by simpa using h.defers, by simpa using h.size, h.pure⟩
    · rw [size_put]
      by_cases ht : t = d
      · subst ht
        rw [h1] at hy
        simp only [Option.some.injEq] at hy
        subst hy
        exact ⟨hlt, by rw [getD_put_same hlt]; exact hx⟩
      · obtain ⟨g1, g2⟩ := h.frel.env t y hy
        exact ⟨g1, by rw [getD_put_other ht]; exact g2⟩
    · obtain ⟨g1, g2⟩ := h.frel.grd t t' j gt b hl
      have ht : t ≠ d := fun e => by subst e; rw [h2] at hl; simp at hl
      rw [size_put, getD_put_other ht]
      refine ⟨g1, fun hb => g2 ?_⟩
      by_cases hgt : gt = d
      · subst hgt
        have hu : u = .bool b := by
          have := getD_of_get hb
          rwa [getD_put_same hlt] at this
        subst hu
        cases x with
        | lp t j => obtain ⟨c, _, e⟩ := hx; simp at e
        | val v =>
          have hv : v = .bool b := by
            cases hx; rfl
          subst hv
          exact get_of_getD (isB hold)
      · rwa [get_put_other hgt] at hb

theorem Inv.reput {p : Bool} {N : Nat × List Deferred} (h : Inv p N φ0 s0 w0 φ ψ s fr g w) {d : Option Nat} {sl : Slot} {u : Value} (hd : ∀ d', d = some d' → SlotIn fr d' sl) (hx : SlotRel φ ψ g sl u) :
    Inv p N φ0 s0 w0 φ ψ s fr (g.put d u) w := by
  cases sl with
  | e x => exact h.reputE hd hx
  | g tt i gg want =>
    cases d with
    | none => exact h
    | some d =>
      obtain ⟨h1, h2⟩ := hd d rfl
      obtain ⟨hb, hx⟩ := hx
      obtain ⟨hlt, _⟩ := h.frel.grd d _ _ _ _ h1
      have hnb : ∀ b, (g.put (some d) u).tmps[d]? ≠ some (.bool b) := fun b e => by
        have := getD_of_get e
        rw [getD_put_same hlt] at this
        exact hb b this
      refine ⟨h.step, ⟨⟨fun t y hy => ?_, fun t t' j gt b hl => ?_⟩, h.frel.loc⟩, h.apart, by simpa using h.defers, by simpa using h.size, h.pure⟩
      · rw [size_put]
        have ht : t ≠ d := fun e => by subst e; rw [h2] at hy; simp at hy
        obtain ⟨g1, g2⟩ := h.frel.env t y hy
        exact ⟨g1, by rw [getD_put_other ht]; exact g2⟩
      · obtain ⟨g1, g2⟩ := h.frel.grd t t' j gt b hl
        rw [size_put]
        refine ⟨g1, fun hbb => ?_⟩
        have hgt : gt ≠ d := fun e => by subst e; exact hnb b hbb
        rw [get_put_other hgt] at hbb
        by_cases ht : t = d
        · subst ht
          rw [h1] at hl
          simp only [Option.some.injEq, Prod.mk.injEq] at hl
          obtain ⟨rfl, rfl, rfl, rfl⟩ := hl
          rw [getD_put_same hlt]
          exact hx hbb
        · rw [getD_put_other ht]
          exact g2 hbb

end
end Go.Sim
set_option linter.unusedSimpArgs false
set_option linter.unusedVariables false
namespace Go.Sim
open Go.RowKit (Below)

/-! ### Values compared -/

mutual
theorem sameV_eq : ∀ {a b : Value}, sameV a b = true → a = b
  | .bool a, b, h => by cases b <;> simp_all [sameV]
  | .int k a, b, h => by cases b <;> simp_all [sameV]
  | .string a, b, h => by cases b <;> simp_all [sameV]
  | .pointer none, b, h => by
    cases b with
    | pointer x => cases x <;> simp_all [sameV]
    | _ => simp_all [sameV]
  | .pointer (some ⟨x, i, j⟩), b, h => by
    cases b with
    | pointer y =>
      cases y with
      | none => simp_all [sameV]
      | some y => obtain ⟨_, _, _⟩ := y; simp_all [sameV]
    | _ => simp_all [sameV]
  | .slice none n c, b, h => by
    cases b with
    | slice x _ _ => cases x <;> simp_all [sameV]
    | _ => simp_all [sameV]
  | .slice (some ⟨x, i, j⟩) n c, b, h => by
    cases b with
    | slice y _ _ =>
      cases y with
      | none => simp_all [sameV]
      | some y => obtain ⟨_, _, _⟩ := y; simp_all [sameV]
    | _ => simp_all [sameV]
  | .map a, b, h => by cases b <;> simp_all [sameV]
  | .nilIface, b, h => by cases b <;> simp_all [sameV]
  | .agg ⟨a⟩, b, h => by
    cases b with
    | agg b =>
      obtain ⟨b⟩ := b
      simp only [sameV] at h
      rw [sameVs_eq h]
    | _ => simp_all [sameV]
  | .tuple ⟨a⟩, b, h => by
    cases b with
    | tuple b =>
      obtain ⟨b⟩ := b
      simp only [sameV] at h
      rw [sameVs_eq h]
    | _ => simp_all [sameV]
  | .float _ _, b, h => by simp [sameV] at h
  | .complex _ _ _, b, h => by simp [sameV] at h
  | .chan _, b, h => by simp [sameV] at h
  | .nilFunc, b, h => by simp [sameV] at h
  | .func _ _ _, b, h => by simp [sameV] at h
  | .iface _ _, b, h => by simp [sameV] at h
theorem sameVs_eq : ∀ {a b : List Value}, sameVs a b = true → a = b
  | [], [], _ => rfl
  | [], _ :: _, h => by simp [sameVs] at h
  | _ :: _, [], h => by simp [sameVs] at h
  | a :: r, b :: q, h => by
    simp only [sameVs, Bool.and_eq_true] at h
    rw [sameV_eq h.1, sameVs_eq h.2]
end

section
variable {P : Program} {C : Ctx} {an : An} {φ0 φ : Phi} {ψ : Nat → Option Nat} {s0 s s' : St} {w0 w : World} {fr fr' : Fr} {a g : Act} {ops : Array Oper} {R : Type} {K : Fr → St → Option R} {X : Value → Fr → St → Option R} {r : R} {X : Option R}

theorem cnd_some {v : Bool} {x : Option R} (h : cnd (.bool v) x none = some r) : v = true ∧ x = some r := by
  cases v with
  | true => exact ⟨rfl, h⟩
  | false => simp [cnd] at h

/-- What was read anew is what stands in the frame. -/
theorem rechk_sound : ∀ {rs : List Nat}, rechk std P C an ops rs fr s X = some r → X = some r ∧
    ∀ j ∈ rs, ∃ o d v, ops[j]? = some o ∧ o.dst = some d ∧ PS P C an ops fr s o (.e (.val v)) ∧ lookE fr.e d = some (.val v) ∧ lookG fr.g d = none
  | [], h => ⟨h, fun j hj => by simp at hj⟩
  | j :: rs, h => by
    unfold rechk at h
    split at h
    · rename_i d op ty pos after g ho
      split at h
      · rename_i v hl hg
        split at h
        · split at h
          · rename_i m hm
            simp only [std, Option.bind_eq_some_iff] at h
            obtain ⟨v', h1, h2⟩ := h
            obtain ⟨h3, h4⟩ := cnd_some h2
            have := sameV_eq h3
            subst this
            obtain ⟨h5, h6⟩ := rechk_sound h4
            refine ⟨h5, fun k hk => ?_⟩
            rcases List.mem_cons.1 hk with rfl | hk
            · exact ⟨_, d, v', ho, rfl, .inl ⟨rfl, by rw [hm]; exact ⟨v', h1, rfl⟩⟩, hl, hg⟩
            · exact h6 k hk
          · simp at h
        · rename_i q want
          split at h
          · simp at h
          · rename_i gt hgt
            split at h
            · rename_i x hx
              split at h
              · rename_i m hm
                simp only [std, Option.bind_eq_some_iff] at h
                obtain ⟨v', h1, h2⟩ := h
                obtain ⟨h3, h4⟩ := cnd_some h2
                have := sameV_eq h3
                subst this
                obtain ⟨h5, h6⟩ := rechk_sound h4
                refine ⟨h5, fun k hk => ?_⟩
                rcases List.mem_cons.1 hk with rfl | hk
                · refine ⟨_, d, v', ho, rfl, .inr ⟨q, want, gt, x, rfl, hgt, hx, ?_⟩, hl, hg⟩
                  unfold gd at h1
                  split at h1
                  · rename_i b
                    split at h1
                    · rename_i e; exact .inl ⟨by rw [e], by rw [hm]; exact ⟨v', h1, rfl⟩⟩
                    · rename_i e; simp only [Option.some.injEq] at h1; exact .inr ⟨fun e2 => e (by simpa using e2), by rw [h1]⟩
                  · rename_i hnb
                    simp only [Option.some.injEq] at h1
                    exact .inr ⟨fun e2 => hnb _ e2, by rw [h1]⟩
                · exact h6 k hk
              · simp at h
            · simp at h
      · simp at h
    · simp at h

/-! ### New memory ahead -/

/-- What new memory an operation makes, wherever it is made. -/
structure SAft (P : Program) (C : Ctx) (an : An) (φ : Phi) (fr : Fr) (a : Act) (o : Oper) (kb : Blk) (va mk : Nat → Value) (blk : Obj) : Prop where
  abs : ∀ s, ∃ m, opR std P C an fr s none o = .s m ∧ m = some (va s.n, s.new kb)
  run : ∀ w, (execOp a.eval o).run P w = .ok (.value (mk w.heap.size)) (w.alloc blk)
  rel : ∀ φ' w c, φ.le φ' → w.heap[c]? = some blk → ∃ l : Loc, l.blk = c ∧ BRel φ' l kb w ∧ ∀ φ'' n, φ'' n = some l → VRel φ'' (va n) (mk c)
  below : ∀ w, Below w.heap.size w (w.alloc blk)
  froz : ∀ w, Froz w (w.alloc blk)
  nb : ∀ c b, mk c ≠ .bool b

theorem SAft.mono {φ' : Phi} {o : Oper} {kb : Blk} {va mk : Nat → Value} {blk : Obj} (h : SAft P C an φ fr a o kb va mk blk) (hle : φ.le φ') : SAft P C an φ' fr a o kb va mk blk :=
  ⟨h.abs, h.run, fun φ2 w c h1 h2 => h.rel φ2 w c (hle.trans h1) h2, h.below, h.froz, h.nb⟩

theorem row_at {φ : Phi} {cs cs' : List Value} {w : World} {c : Nat} {t : TypeId} (hv : VsRel φ cs cs') (h1 : oneCs cs = true) (hw : w.heap[c]? = some (.cells ⟨cs'⟩ t)) :
    ∃ l : Loc, l.blk = c ∧ BRel φ l (.row cs.length [cs] false) w ∧ ∀ φ'' n, φ'' n = some l → VRel φ'' (.pointer (some ⟨n, 0, some 0⟩)) (.pointer (some ⟨c, 0, none⟩)) := by
  refine ⟨⟨c, 0, cs.length, 1⟩, rfl, ⟨rfl, by simp, ⟨cs'⟩, t, (0, 0), hw, by simp [hv.length], fun i q hq => ?_, fun _ => rfl⟩, fun φ'' n hn => ?_⟩
  · cases i with
    | zero =>
      simp at hq
      subst hq
      refine ⟨rfl, h1, fun j v hjv => ?_⟩
      obtain ⟨u, hu, hr⟩ := hv.get hjv
      exact ⟨u, by simpa using hu, hr⟩
    | succ i => simp at hq
  · have := VRel.ptr (i := 0) (j := 0) hn
    simpa using this

theorem rows_at {φ : Phi} {rows : List (List Value)} {cs' : List Value} {sz len : Nat} {w : World} {c : Nat} {t : TypeId} (hr : ∀ q ∈ rows, q.length = sz ∧ oneCs q = true) (hv : VsRel φ rows.flatten cs') (hl : len ≤ rows.length)
    (hw : w.heap[c]? = some (.cells ⟨cs'⟩ t)) :
    ∃ l : Loc, l.blk = c ∧ BRel φ l (.row sz rows false) w ∧ ∀ φ'' n, φ'' n = some l → VRel φ'' (.slice (some ⟨n, 0, some 0⟩) len (2 * rows.length)) (.slice (some ⟨c, 0, none⟩) len rows.length) := by
  have hcl : cs'.length = rows.length * sz := by rw [← hv.length, flat_len fun q hq => (hr q hq).1]
  refine ⟨⟨c, 0, sz, rows.length⟩, rfl, ⟨rfl, by simp, ⟨cs'⟩, t, (0, 0), hw, by simp [hcl], fun i q hq => ?_, fun _ => rfl⟩, fun φ'' n hn => ?_⟩
  · have hm := List.mem_of_getElem? hq
    refine ⟨(hr q hm).1, (hr q hm).2, fun j v hjv => ?_⟩
    have := flat_get (fun q hq => (hr q hq).1) hq hjv
    obtain ⟨u, hu, hr⟩ := hv.get this
    exact ⟨u, by simpa using hu, hr⟩
  · exact VRel.slice (i := 0) hn hl (by simp) (fun _ => by simp) (.inr rfl)

theorem buildSlice_run {t e : TypeId} {z : Value} {n len : Nat} {ps ps' : List (Nat × Value)} {rows : List (List Value)} (ht : P.underlying t = some (.slice e)) (hz : zeroT P e = some z) (hn : sizeT P e = some n)
    (hpz : plainV z = true) (hone : oneCs (cellsL z) = true) (hlen : len * n ≤ 16777216) (hn0 : 0 < n) (hzl : (cellsL z).length = n)
    (hps : ps.length = ps'.length) (hrel : ∀ (k i : Nat) (v : Value), ps[k]? = some (i, v) → ∃ v', ps'[k]? = some (i, v') ∧ VRel φ v v')
    (hbl : bls n (List.replicate len (cellsL z)) ps = some rows) :
    ∃ cs', (∀ w : World, (Instr.buildSlice t len ps'.toArray).run P w = .ok (.slice (some ⟨w.heap.size, 0, none⟩) len rows.length) (w.alloc (.cells ⟨cs'⟩ e))) ∧ VsRel φ rows.flatten cs' ∧ (∀ q ∈ rows, q.length = n ∧ oneCs q = true) ∧ len ≤ rows.length := by
  have hrep : ∀ q ∈ List.replicate len (cellsL z), q.length = n ∧ oneCs q = true := fun q hq => by rw [(List.mem_replicate.1 hq).2]; exact ⟨hzl, hone⟩
  have hzf : VsRel φ (List.replicate len (cellsL z)).flatten (List.replicate len (cellsL z)).flatten := by
    generalize len = k
    induction k with
    | zero => exact .nil
    | succ k ih => rw [List.replicate_succ, List.flatten_cons]; exact (VsRel.zero hpz).append ih
  obtain ⟨cs', g1, g2, g3, g4⟩ := bls_sound ps ps' (List.replicate len (cellsL z)) rows _ hps hrel hrep hzf hbl
  refine ⟨cs', fun w => ?_, g2, g3, by rw [g4]; simp⟩
  have hbig : ¬ (len * n > 2 ^ 24) := by simpa using hlen
  have hcells : (Array.range (len * n)).map ((if len * n = 0 then #[] else z.cells)[· % (if len * n = 0 then #[] else z.cells : Array Value).size]!) = ⟨(List.replicate len (cellsL z)).flatten⟩ := by
    apply Array.ext'
    by_cases h0 : len * n = 0
    · have : len = 0 := by
        rcases Nat.mul_eq_zero.1 h0 with h | h
        · exact h
        · omega
      subst this
      simp
    · simp only [if_neg h0]
      exact zeros_flat len hzl hn0
  by_cases h0 : len * n = 0
  · simp only [if_pos h0] at hcells
    simp only [Instr.buildSlice, Sem.run_bind, run_underlying ht, Result.andThen_ok, run_sizeOf w hn, if_neg hbig, Sem.run_ite, if_pos h0, Sem.run_pure, hcells, g1]
    simp [newRow, g4]
  · simp only [if_neg h0] at hcells
    simp only [Instr.buildSlice, Sem.run_bind, run_underlying ht, Result.andThen_ok, run_sizeOf w hn, if_neg hbig, Sem.run_ite, if_neg h0, Sem.run_pure, run_zeroValue w hz, hcells, g1]
    simp [newRow, g4]

theorem alv_new {v x : Value} (h : alv s v = some (x, s')) : ∃ cs, bx v = some cs ∧ ∀ s, alv s v = some (.pointer (some ⟨s.n, 0, some 0⟩), s.new (.row cs.length [cs] false)) := by
  unfold alv at h
  cases hb : bx v with
  | none => simp [hb] at h
  | some cs => exact ⟨cs, rfl, fun s => by simp [alv, hb, alc]⟩

theorem cells_below {cs : Array Value} {t : TypeId} (w : World) : Below w.heap.size w (w.alloc (.cells cs t)) := (Below.refl _ _).alloc (Nat.le_refl _) _

/-- New memory: made wherever it is made. -/
theorem sa_of {o : Oper} {m : Option (Value × St)} {q : Value × St} (hk : saKind o = true) (he : EnvRel φ ψ fr a) (ho : opR std P C an fr s none o = .s m) (hm : m = some q) : ∃ kb va mk blk, SAft P C an φ fr a o kb va mk blk := by
  obtain ⟨dst, op, ty, pos, after, guard⟩ := o
  unfold saKind at hk
  split at hk
  · rename_i t h1 h2 h3
    simp only at h1 h2 h3
    subst h1; subst h2; subst h3
    rename_i d
    simp only [opR] at ho ⊢
    split at ho
    · rename_i z hz
      split at ho
      · rename_i hp
        split at ho
        · simp at ho
        · rename_i hl
          simp only [OpR.s.injEq] at ho
          subst ho
          obtain ⟨cs, hb, hall⟩ := alv_new hm
          obtain ⟨g1, g2, _⟩ := bx_rel (VRel.of_plain φ hp) hb
          refine ⟨_, _, _, _, fun s => ⟨_, by simp only [opR, hz, if_pos hp, if_neg hl], hall s⟩, fun w => run_v (alloc_run w hz), fun φ' w c hle hw => row_at (g1.mono hle) g2 hw, fun w => cells_below w, fun w => fun a _ => Go.RowKit.frozen?_alloc_cells w _ _ a, fun c b => by simp⟩
      · simp at ho
    · simp at ho
  · rename_i t x h1 h2 h3
    simp only at h1 h2 h3
    subst h1; subst h2; subst h3
    rename_i d
    simp only [opR] at ho ⊢
    split at ho
    · rename_i v hv
      split at ho
      · simp at ho
      · rename_i hl
        simp only [OpR.s.injEq] at ho
        subst ho
        obtain ⟨cs, hb, hall⟩ := alv_new hm
        obtain ⟨g1, g2, _⟩ := bx_rel (evV_sound he hv) hb
        refine ⟨_, _, _, _, fun s => ⟨_, by simp only [opR, hv, if_neg hl], hall s⟩, fun w => run_v (box_run w t _), fun φ' w c hle hw => row_at (g1.mono hle) g2 hw, fun w => cells_below w, fun w => fun a _ => Go.RowKit.frozen?_alloc_cells w _ _ a, fun c b => by simp⟩
    · simp at ho
  · rename_i t len ps h1 h2 h3
    simp only at h1 h2 h3
    subst h1; subst h2; subst h3
    simp only [opR] at ho ⊢
    split at ho
    · rename_i e qs k1 k3
      obtain ⟨g1, g2⟩ := evPs_sound he k3
      split at ho
      · rename_i z n k4 k5
        split at ho
        · rename_i hc
          have hc' := hc
          simp only [Bool.and_eq_true, decide_eq_true_eq] at hc'
          obtain ⟨⟨⟨⟨c1, c2⟩, c3⟩, c4⟩, c5⟩ := hc'
          simp only [OpR.s.injEq] at ho
          subst ho
          simp only [std, Option.bind_eq_some_iff] at hm
          obtain ⟨rows, hrows, _⟩ := hm
          obtain ⟨cs', f1, f2, f3, f4⟩ := buildSlice_run k1 k4 k5 c1 c2 c3 c4 c5 g1 g2 hrows
          refine ⟨.row n rows false, fun m => .slice (some ⟨m, 0, some 0⟩) len (2 * rows.length), fun c => .slice (some ⟨c, 0, none⟩) len rows.length, .cells ⟨cs'⟩ e, fun s => ⟨std.bd (bls n (List.replicate len (cellsL z)) qs) fun rows => als s n len rows, by simp only [opR, k1, k3, k4, k5, if_pos hc], by simp only [std, hrows, Option.bind_some, als]⟩, fun w => ?_, fun φ' w c hle hw => rows_at f3 (f2.mono hle) f4 hw, fun w => cells_below w, fun w => fun a _ => Go.RowKit.frozen?_alloc_cells w _ _ a, fun c b => by simp⟩
          refine run_v (m := Instr.buildSlice t len (ps.map _)) ?_
          rw [pairs_map a.eval fun _ => rfl]
          exact f1 w
        · simp at ho
      · simp at ho
    · simp at ho
  · rename_i t lo co h1 h2 h3
    simp only at h1 h2 h3
    subst h1; subst h2; subst h3
    simp only [opR] at ho ⊢
    split at ho
    · rename_i e l c k1 k2 k3
      split at ho
      · rename_i z n b k4 k5 k6
        split at ho
        · rename_i hc
          have hc' := hc
          simp only [Bool.and_eq_true, decide_eq_true_eq] at hc'
          obtain ⟨⟨⟨c1, c2⟩, c3⟩, c4⟩ := hc'
          simp only [OpR.s.injEq] at ho
          subst ho
          have hi : ∃ inf, P.info? e = some inf ∧ inf.zero = some z ∧ inf.size = n ∧ inf.bytes = b := by
            unfold zeroT at k4; unfold sizeT at k5; unfold bytesT at k6
            cases hinf : P.info? e with
            | none => simp [hinf] at k4
            | some inf => simp [hinf] at k4 k5 k6; exact ⟨inf, rfl, k4, k5, k6⟩
          obtain ⟨inf, i1, i2, i3, rfl⟩ := hi
          unfold mks at hm
          split at hm
          · rename_i kl lv kc cv
            split at hm
            · rename_i hk'
              obtain ⟨q1, q2, q3, q4⟩ := hk'
              have el : a.eval lo = .int kl lv := by have := evV_sound he k2; cases hh : a.eval lo <;> rw [hh] at this <;> cases this; rfl
              have ec : a.eval co = .int kc cv := by have := evV_sound he k3; cases hh : a.eval co <;> rw [hh] at this <;> cases this; rfl
              have hzf : VsRel φ (List.replicate cv.toNat (cellsL z)).flatten (List.replicate cv.toNat (cellsL z)).flatten := by
                generalize cv.toNat = k
                induction k with
                | zero => exact .nil
                | succ k ih => rw [List.replicate_succ, List.flatten_cons]; exact (VsRel.zero c1).append ih
              have hcells : madeCells z.cells (cv.toNat * inf.size) = ⟨(List.replicate cv.toNat (cellsL z)).flatten⟩ := by
                apply Array.ext'
                rw [i3]
                exact zeros_flat cv.toNat c4 c3
              have hlen : (List.replicate cv.toNat (cellsL z)).length = cv.toNat := by simp
              refine ⟨.row n (List.replicate cv.toNat (cellsL z)) false, fun m => .slice (some ⟨m, 0, some 0⟩) lv.toNat (2 * (List.replicate cv.toNat (cellsL z)).length), fun c => .slice (some ⟨c, 0, none⟩) lv.toNat (List.replicate cv.toNat (cellsL z)).length, .cells ⟨(List.replicate cv.toNat (cellsL z)).flatten⟩ e,
                fun s => ⟨mks s n inf.bytes (cellsL z) (.int kl lv) (.int kc cv), by simp only [opR, k1, k2, k3, k4, k5, k6, if_pos hc], by simp only [mks, if_pos (show 0 ≤ lv ∧ lv ≤ cv ∧ cv * inf.bytes ≤ 140737488355328 ∧ cv ≤ 9223372036854775807 from ⟨q1, q2, q3, q4⟩), als]⟩, fun w => ?_,
                fun φ' w c hle hw => rows_at (fun q hq => by rw [(List.mem_replicate.1 hq).2]; exact ⟨c4, c2⟩) (hzf.mono hle) (by rw [hlen]; omega) hw, fun w => cells_below w, fun w => fun a _ => Go.RowKit.frozen?_alloc_cells w _ _ a, fun c b => by simp⟩
              have hrun := run_make (P := P) w t e inf z k1 i1 i2 kl kc lv cv q1 q2 (by rw [Int.mul_comm]; omega) q4
              rw [hcells] at hrun
              refine run_v (m := Instr.makeSlice t (a.eval lo) (a.eval co)) ?_
              rw [el, ec, hrun, hlen]
            · simp at hm
          · simp at hm
        · simp at ho
      · simp at ho
    · simp at ho
  · rename_i t h1 h2 h3
    simp only at h1 h2 h3
    subst h1; subst h2; subst h3
    refine ⟨.map [] false, fun n => .map (some n), fun n => .map (some n), .map #[] 0, fun s => ⟨_, rfl, rfl⟩, fun w => run_v (by simp [Instr.makeMap]), fun φ' w c hle hw => ⟨⟨c, 0, 0, 0⟩, rfl, ⟨#[], 0, hw, rfl, fun i k v hi => by simp at hi⟩, fun φ'' n hn => VRel.map hn⟩,
      fun w => (Below.refl _ _).alloc (Nat.le_refl _) _, fun w => fun a _ => Go.RowKit.frozen?_alloc_map w _ _ a, fun c b => by simp⟩
  · simp at hk

/-- One row more, of a block that stands already. -/
theorem Inv.account {p : Bool} {N : Nat × List Deferred} {kb : Blk} {l : Loc} (h : Inv p N φ0 s0 w0 φ ψ s fr a w) (hp : p ≠ true) (hB : BRel (φ.add s.n l) l kb w) (ha : Away φ ψ s fr l.blk) (hw : w0.heap.size ≤ l.blk) :
    Inv p N φ0 s0 w0 (φ.add s.n l) ψ (s.new kb) fr a w := by
  have hr := h.step.rel
  have hle := Phi.le_add hr l
  have hget : ∀ c x, (s.new kb).get c = some x → (c = s.n ∧ x = kb) ∨ (c ≠ s.n ∧ s.get c = some x) := by
    intro c x hx
    rw [St.get_new] at hx
    by_cases hc : c = s.n
    · rw [if_pos hc] at hx; simp at hx; exact .inl ⟨hc, hx.symm⟩
    · rw [if_neg hc] at hx; exact .inr ⟨hc, hx⟩
  have hphi : ∀ c x, s.get c = some x → ∀ l1, φ.add s.n l c = some l1 → φ c = some l1 := by
    intro c x hx l1 h1
    obtain ⟨l2, h2, h3⟩ := hr.blk c x hx
    have := hle c l2 h2
    rw [this] at h1
    simp at h1
    subst h1
    exact h2
  refine ⟨⟨⟨fun b l1 hb => ?_, fun c x hx => ?_, fun c d x y l1 l2 hx hy hne hro h1 h2 => ?_⟩, h.step.ext.trans hle, h.step.frm, fun b k l1 h1 h2 => ?_⟩, ⟨⟨fun t x hx => ⟨(h.frel.env t x hx).1, (h.frel.env t x hx).2.mono hle⟩, h.frel.grd⟩, fun t cs hl => ?_⟩,
    ⟨h.apart.new, fun t cs c b k l1 h1 h2 h3 h4 => ?_, h.apart.one⟩, h.defers, h.size, fun e => absurd e hp⟩
  · unfold Phi.add at hb
    by_cases hc : b = s.n
    · subst hc; simp
    · rw [if_neg hc] at hb
      have := hr.fresh b l1 hb
      simp; omega
  · rcases hget c x hx with ⟨rfl, rfl⟩ | ⟨hc, hx⟩
    · exact ⟨l, Phi.add_self _ _ _, hB⟩
    · obtain ⟨l1, h1, h2⟩ := hr.blk c x hx
      exact ⟨l1, hle _ _ h1, h2.of_same hle rfl⟩
  · rcases hget c x hx with ⟨rfl, rfl⟩ | ⟨hc, hx'⟩
    · rcases hget d y hy with ⟨rfl, rfl⟩ | ⟨hd, hy'⟩
      · exact absurd rfl hne
      · rw [Phi.add_self] at h1
        simp only [Option.some.injEq] at h1
        subst h1
        exact (ha.row d y l2 hy' (hphi d y hy' l2 h2)).symm
    · rcases hget d y hy with ⟨rfl, rfl⟩ | ⟨hd, hy'⟩
      · rw [Phi.add_self] at h2
        simp only [Option.some.injEq] at h2
        subst h2
        exact ha.row c x l1 hx' (hphi c x hx' l1 h1)
      · exact hr.inj c d x y l1 l2 hx' hy' hne hro (hphi c x hx' l1 h1) (hphi d y hy' l2 h2)
  · rcases hget b k h1 with ⟨rfl, rfl⟩ | ⟨hb, hx⟩
    · rw [Phi.add_self] at h2
      simp only [Option.some.injEq] at h2
      subst h2
      exact .inl hw
    · exact h.step.own b k l1 hx (hphi b k hx l1 h2)
  · obtain ⟨c, g1, g2⟩ := h.frel.loc t cs hl
    exact ⟨c, g1, g2.of_same hle rfl⟩
  · rcases hget b k h3 with ⟨rfl, rfl⟩ | ⟨hb, hx⟩
    · rw [Phi.add_self] at h4
      simp only [Option.some.injEq] at h4
      subst h4
      exact fun e => ha.loc t cs h1 (by rw [h2, e])
    · exact h.apart.row t cs c b k l1 h1 h2 hx (hphi b k hx l1 h4)
end
end Go.Sim
