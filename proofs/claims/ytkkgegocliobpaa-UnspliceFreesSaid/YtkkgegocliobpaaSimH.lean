/-
  Addresses, parts and wholes, slices, maps.
-/
import Derived.Test.YtkkgegocliobpaaSimG
import Derived.Laws.Slices
import Derived.Laws.MakeOwn
import Derived.Laws.IdiomStrings
set_option linter.unusedSimpArgs false
namespace Go.Sim

section
variable {P : Program} (w : World)

theorem isNat_rel {φ : Phi} {v v' : Value} {n : Nat} (h : VRel φ v v') (hn : isNat v = some n) : ∃ k, v' = .int k (n : Int) := by
  cases h <;> simp [isNat] at hn
  obtain ⟨h0, rfl⟩ := hn
  rename_i k i
  exact ⟨k, by congr 1; omega⟩

theorem run_bound {φ : Phi} {v v' : Value} {n y : Nat} (code : BoundsCode) (h : VRel φ v v') (hn : isNat v = some n) (hy : n ≤ y) : (Instr.sliceBound v' y code).run P w = .ok n w := by
  obtain ⟨k, rfl⟩ := isNat_rel h hn
  have : (0 : Int) ≤ n ∧ (n : Int) ≤ y := by omega
  simp [Instr.sliceBound, asIntOf, this]

theorem idxA_run {t e : TypeId} {n sz : Nat} {ad : Addr} {kk : IntKind} {k : Int} (ht : P.underlying t = some (.array n e)) (hs : sizeT P e = some sz) (hk : 0 ≤ k ∧ k < n) :
    (Instr.indexAt t (.pointer (some ad)) (.int kk k)).run P w = .ok (.pointer (some (ad.add (k.toNat * sz)))) w := by
  simp [Instr.indexAt, asIntOf, Instr.sureAddr, run_underlying ht, hk.1, hk.2, run_sizeOf w hs]

theorem idxA_sound {φ : Phi} {t e : TypeId} {n sz : Nat} {v v' i i' r : Value} (ht : P.underlying t = some (.array n e)) (hs : sizeT P e = some sz) (hv : VRel φ v v') (hi : VRel φ i i') (hx : idxA n sz v i = some r) :
    ∃ r', (Instr.indexAt t v' i').run P w = .ok r' w ∧ VRel φ r r' := by
  unfold idxA at hx
  split at hx
  · rename_i b i0 j kk k
    cases hi
    cases hv with
    | ptr hl =>
      rename_i l
      split at hx
      · rename_i hk
        simp only [Option.some.injEq] at hx
        subst hx
        refine ⟨_, idxA_run w ht hs hk, ?_⟩
        have := VRel.ptr (i := i0) (j := j + k.toNat * sz) hl
        simpa [Addr.add_mid, Nat.add_assoc] using this
      · simp at hx
  · simp at hx

theorem idx_sound {φ : Phi} {s : St} {t e : TypeId} {n : Nat} {v v' i i' r : Value} (h : Rel φ s w) (ht : P.underlying t = some (.slice e)) (hn : sizeT P e = some n) (hv : VRel φ v v') (hi : VRel φ i i')
    (hx : idx s n v i = some r) : ∃ r', (Instr.indexAt t v' i').run P w = .ok r' w ∧ VRel φ r r' := by
  unfold idx at hx
  split at hx
  · rename_i b i0 len ec k m
    cases hi
    cases hv with
    | @slice _ _ _ _ c a l hl h1 h2 h3 h4 =>
      split at hx
      · rename_i hm
        cases hb : s.get b with
        | none => simp [hb] at hx
        | some blk =>
          cases blk with
          | map es ro => simp [hb] at hx
          | row sz' rows ro =>
            simp only [hb] at hx
            split at hx
            · rename_i hsz
              subst hsz
              simp only [Option.some.injEq] at hx
              subst hx
              obtain ⟨l2, g2, hB⟩ := h.blk b _ hb
              rw [hl] at g2
              simp only [Option.some.injEq] at g2
              subst g2
              have hc : c ≠ 0 := by omega
              rw [h3 hc]
              refine ⟨.pointer (some ⟨l.blk, l.off + (i0 + m.toNat) * l.sz + 0, none⟩), ?_, .ptr hl⟩
              have hm' : (0 : Int) ≤ m ∧ m < (len : Int) := hm
              simp only [Instr.indexAt, asIntOf, Sem.run_bind, Sem.run_pure, Result.andThen_ok, run_underlying ht, Sem.run_ite, if_pos hm', run_sizeOf w hn, Addr.add_mid]
              congr 4
              rw [hB.1, Nat.add_mul]; omega
            · simp at hx
      · simp at hx
  · simp at hx

theorem fld_sound {φ : Phi} {t : TypeId} {fs : Array Field} {j : Nat} {f : Field} {n : Nat} {v v' r : Value} (ht : P.underlying t = some (.struct fs)) (hf : fs[j]? = some f) (hn : sizeT P f.type = some n) (hn0 : n ≠ 0)
    (hv : VRel φ v v') (hx : fld f.offset v = some r) : ∃ r', (Instr.fieldAt t v' j).run P w = .ok r' w ∧ VRel φ r r' := by
  unfold fld at hx
  split at hx
  · rename_i b i k
    cases hv with
    | @ptr _ _ _ l hl =>
      simp only [Option.some.injEq] at hx
      subst hx
      refine ⟨.pointer (some ⟨l.blk, l.off + i * l.sz + (k + f.offset), none⟩), ?_, .ptr hl⟩
      simp only [Instr.fieldAt, Sem.run_bind, run_underlying ht, Result.andThen_ok, hf, Instr.sureAddr, Sem.run_pure, fieldPlace, run_sizeOf w hn, hn0, if_false, Addr.add_mid, Nat.add_assoc]
  · simp at hx

/-- The same of the call's own variable. -/
theorem fld_lp {t : TypeId} {fs : Array Field} {j : Nat} {f : Field} {n c k : Nat} (ht : P.underlying t = some (.struct fs)) (hf : fs[j]? = some f) (hn : sizeT P f.type = some n) (hn0 : n ≠ 0) :
    (Instr.fieldAt t (.pointer (some ⟨c, k, none⟩)) j).run P w = .ok (.pointer (some ⟨c, k + f.offset, none⟩)) w := by
  simp only [Instr.fieldAt, Sem.run_bind, run_underlying ht, Result.andThen_ok, hf, Instr.sureAddr, Sem.run_pure, fieldPlace, run_sizeOf w hn, hn0, if_false, Addr.add_mid]

theorem prt_sound {φ : Phi} {t : TypeId} {fs : Array Field} {j : Nat} {f : Field} {n : Nat} {agg : Bool} {v v' r : Value} (ht : P.underlying t = some (.struct fs)) (hf : fs[j]? = some f) (hn : sizeT P f.type = some n) (ha : aggT P f.type = some agg)
    (hv : VRel φ v v') (hx : prt f.offset n agg v = some r) : ∃ r', (Instr.field t v' j).run P w = .ok r' w ∧ VRel φ r r' := by
  unfold prt at hx
  split at hx
  · rename_i l
    cases hv with
    | @agg _ l' hl h1 =>
      cases agg with
      | true =>
        simp only [if_true] at hx
        split at hx
        · simp only [Option.some.injEq] at hx
          subst hx
          refine ⟨_, ?_, .agg ((hl.drop _).take _) (oneCs_take _ (oneCs_drop _ h1))⟩
          simp only [Instr.field, Sem.run_bind, run_underlying ht, Result.andThen_ok, hf, asAgg, Sem.run_pure, run_part_agg w ha hn]
        · simp at hx
      | false =>
        simp only [Bool.false_eq_true, if_false] at hx
        obtain ⟨u, hu, hr⟩ := hl.get hx
        refine ⟨u, ?_, hr⟩
        simp only [Instr.field, Sem.run_bind, run_underlying ht, Result.andThen_ok, hf, asAgg, Sem.run_pure, run_part_one w ha hu]
  · simp at hx

theorem idxS_sound {φ : Phi} {t : TypeId} {v v' i i' r : Value} (ht : P.underlying t = some .string) (hv : VRel φ v v') (hi : VRel φ i i') (hx : idxS v i = some r) :
    plainV r = true ∧ (Instr.index t v' i').run P w = .ok r w := by
  unfold idxS at hx
  split at hx
  · rename_i s k n
    cases hv; cases hi
    split at hx
    · rename_i hn
      cases hb : s.data.toList[n.toNat]? with
      | none => simp [hb] at hx
      | some b =>
        simp only [hb, Option.map_some, Option.some.injEq] at hx
        subst hx
        refine ⟨rfl, ?_⟩
        have hb' : s[n.toNat]? = some b := by
          have hlt : n.toNat < s.data.toList.length := by
            rcases Nat.lt_or_ge n.toNat s.data.toList.length with h | h
            · exact h
            · rw [List.getElem?_eq_none h] at hb; simp at hb
          rw [getElem?_pos s n.toNat hlt, ← hb, List.getElem?_eq_getElem hlt]
          rfl
        simp [Instr.index, asIntOf, run_underlying ht, hn, hb']
    · simp at hx
  · simp at hx

/-! ### Slices -/

/-- Bounds that may be left out. -/
inductive ORel (φ : Phi) : Option Value → Option Value → Prop
  | none : ORel φ none none
  | some {v v' : Value} (h : VRel φ v v') : ORel φ (some v) (some v')

theorem slice_run {t e : TypeId} {n l h m len c : Nat} {a : Option Addr} {lo' hi' mx' : Option Value} (ht : P.underlying t = some (.slice e)) (hn : sizeT P e = some n)
    (hl : ∀ y code, l ≤ y → (match (generalizing := false) lo' with | some v => Instr.sliceBound v y code | none => pure 0 : Sem Nat).run P w = .ok l w)
    (hh : (hi' = none ∧ mx' = none ∧ h = len) ∨ ∃ v, hi' = some v ∧ ∀ y code, h ≤ y → (Instr.sliceBound v y code).run P w = .ok h w)
    (hm : (mx' = none ∧ m = c) ∨ ∃ v, mx' = some v ∧ ∀ y code, m ≤ y → (Instr.sliceBound v y code).run P w = .ok m w)
    (h1 : l ≤ h) (h2 : h ≤ m) (h3 : m ≤ c) (h4 : len ≤ c) :
    (Instr.sliceAt t (.slice a len c) lo' hi' mx').run P w = .ok (.slice (if m = l then a else a.map (·.add (l * n))) (h - l) (m - l)) w := by
  have hl1 := hl h .sliceB h1
  have hl2 := hl h .slice3C h1
  rcases hm with ⟨rfl, rfl⟩ | ⟨mv, rfl, hm⟩
  · rcases hh with ⟨rfl, _, rfl⟩ | ⟨hv, rfl, hh⟩
    · cases lo' <;> simp_all [Instr.sliceAt, run_underlying ht, Instr.slice, Instr.sliceBounds, run_sizeOf w hn]
    · have hh1 := hh m .sliceAcap h2
      cases lo' <;> simp_all [Instr.sliceAt, run_underlying ht, Instr.slice, Instr.sliceBounds, run_sizeOf w hn]
  · have hm1 := hm c .slice3Acap h3
    rcases hh with ⟨rfl, h0, rfl⟩ | ⟨hv, rfl, hh⟩
    · simp at h0
    · have hh1 := hh m .slice3B h2
      cases lo' <;> simp_all [Instr.sliceAt, run_underlying ht, Instr.slice, Instr.sliceBounds, run_sizeOf w hn]

theorem lo_run {φ : Phi} {lo lo' : Option Value} {l : Nat} (h : ORel φ lo lo') (hl : optN lo 0 = some l) : ∀ y code, l ≤ y → (match (generalizing := false) lo' with | some v => Instr.sliceBound v y code | none => pure 0 : Sem Nat).run P w = .ok l w := by
  intro y code hy
  cases h with
  | none => simp [optN] at hl; subst hl; simp
  | some h => exact run_bound w code h hl hy

theorem slc_sound {φ : Phi} {s : St} {t e : TypeId} {n : Nat} {v v' r : Value} {lo hi mx lo' hi' mx' : Option Value} (h : Rel φ s w) (ht : P.underlying t = some (.slice e)) (hn : sizeT P e = some n) (hv : VRel φ v v')
    (hlo : ORel φ lo lo') (hhi : ORel φ hi hi') (hmx : ORel φ mx mx') (hmh : mx ≠ none → hi ≠ none)
    (hx : slc s n v lo hi mx = some r) : ∃ r', (Instr.sliceAt t v' lo' hi' mx').run P w = .ok r' w ∧ VRel φ r r' := by
  unfold slc at hx
  cases hl : optN lo 0 with
  | none => simp [hl] at hx
  | some l =>
    simp only [hl, Option.bind_some] at hx
    have hlr := lo_run (P := P) w hlo hl
    split at hx
    · rename_i b i len ec
      cases hv with
      | @slice _ _ _ _ c a lc hlc h1 h2 h3 h4 =>
        cases hh : optN hi len with
        | none => simp [hh] at hx
        | some hb =>
          simp only [hh, Option.bind_some] at hx
          cases hg : s.get b with
          | none => simp [hg] at hx
          | some blk =>
            cases blk with
            | map es ro => simp [hg] at hx
            | row sz' rows ro =>
              simp only [hg] at hx
              split at hx
              · rename_i hc
                obtain ⟨rfl, hlh⟩ := hc
                obtain ⟨l2, g2, hB⟩ := h.blk b _ hg
                rw [hlc] at g2
                simp only [Option.some.injEq] at g2
                subst g2
                have hsz := hB.1
                have haddr : ∀ m, m ≤ c → (m - l ≠ 0) → (if m = l then some a else (some a).map (·.add (l * sz'))) = some ⟨lc.blk, lc.off + (i + l) * lc.sz, none⟩ := by
                  intro m hm hml
                  rw [if_neg (by omega), h3 (by omega)]
                  simp only [Option.map_some, Addr.add_mid, Option.some.injEq, Addr.mk.injEq, true_and, and_true]
                  rw [hsz, Nat.add_mul]; omega
                have hsome : ∀ m, ∃ a', (if m = l then some a else (some a).map (·.add (l * sz'))) = some a' := by
                  intro m; split <;> exact ⟨_, rfl⟩
                have hhr : (hi' = none ∧ mx' = none ∧ hb = len) ∨ ∃ v, hi' = some v ∧ ∀ y code, hb ≤ y → (Instr.sliceBound v y code).run P w = .ok hb w := by
                  cases hhi with
                  | none =>
                    left
                    simp only [optN, Option.some.injEq] at hh
                    refine ⟨rfl, ?_, hh.symm⟩
                    cases hmx with
                    | none => rfl
                    | some _ => exact absurd rfl (hmh (by simp))
                  | some hr => exact .inr ⟨_, rfl, fun y code hy => run_bound w code hr hh hy⟩
                cases hmx with
                | none =>
                  simp only at hx
                  by_cases he : ec = 1
                  · subst he
                    rw [if_pos rfl] at hx
                    split at hx
                    · rename_i hbl
                      simp only [Option.some.injEq] at hx
                      subst hx
                      have hci : i + c = lc.cap := by
                        rcases h4 with ⟨_, h4⟩ | h4
                        · exact h4
                        · omega
                      obtain ⟨a', ha'⟩ := hsome c
                      refine ⟨_, slice_run w ht hn hlr hhr (.inl ⟨rfl, rfl⟩) hlh (by omega) (Nat.le_refl _) h1, ?_⟩
                      rw [ha']
                      exact .slice hlc (by omega) (by omega) (fun hc0 => by rw [haddr c (Nat.le_refl _) hc0] at ha'; exact (Option.some.inj ha').symm) (.inl ⟨rfl, by omega⟩)
                    · simp at hx
                  · rw [if_neg he] at hx
                    have hec : ec = 2 * c := by
                      rcases h4 with ⟨h4, _⟩ | h4
                      · exact absurd h4 he
                      · exact h4
                    have hdiv : ec / 2 = c := by omega
                    rw [hdiv] at hx
                    split at hx
                    · rename_i hbl
                      simp only [Option.some.injEq] at hx
                      subst hx
                      obtain ⟨a', ha'⟩ := hsome c
                      refine ⟨_, slice_run w ht hn hlr hhr (.inl ⟨rfl, rfl⟩) hlh hbl (Nat.le_refl _) h1, ?_⟩
                      rw [ha']
                      exact .slice hlc (by omega) (by omega) (fun hc0 => by rw [haddr c (Nat.le_refl _) hc0] at ha'; exact (Option.some.inj ha').symm) (.inr rfl)
                    · simp at hx
                | @some mv mv' hr =>
                  simp only at hx
                  cases hm : isNat mv with
                  | none => simp [hm] at hx
                  | some m =>
                    simp only [hm, Option.bind_some] at hx
                    split at hx
                    · rename_i hc
                      simp only [Option.some.injEq] at hx
                      subst hx
                      have hmc : m ≤ c := by
                        rcases hc.2 with h | ⟨h, h'⟩
                        · omega
                        · rcases h4 with ⟨h4, _⟩ | h4
                          · exact absurd h4 h
                          · omega
                      obtain ⟨a', ha'⟩ := hsome m
                      refine ⟨_, slice_run w ht hn hlr hhr (.inr ⟨_, rfl, fun y code hy => run_bound w code hr hm hy⟩) hlh hc.1 hmc h1, ?_⟩
                      rw [ha']
                      exact .slice hlc (by omega) (by omega) (fun hc0 => by rw [haddr m hmc hc0] at ha'; exact (Option.some.inj ha').symm) (.inr rfl)
                    · simp at hx
              · simp at hx
    · cases hv
      cases hh : optN hi 0 with
      | none => simp [hh] at hx
      | some hb =>
        simp only [hh, Option.bind_some] at hx
        cases hmx with
        | some _ => simp at hx
        | none =>
          simp only at hx
          split at hx
          · rename_i hc
            simp only [Option.some.injEq] at hx
            subst hx
            obtain ⟨rfl, rfl⟩ := hc
            have hhr : (hi' = none ∧ (none : Option Value) = none ∧ 0 = 0) ∨ ∃ v, hi' = some v ∧ ∀ y code, 0 ≤ y → (Instr.sliceBound v y code).run P w = .ok 0 w := by
              cases hhi with
              | none => exact .inl ⟨rfl, rfl, rfl⟩
              | some hr => exact .inr ⟨_, rfl, fun y code hy => run_bound w code hr hh hy⟩
            refine ⟨_, slice_run w ht hn hlr hhr (.inl ⟨rfl, rfl⟩) (Nat.le_refl _) (Nat.le_refl _) (Nat.le_refl _) (Nat.le_refl _), ?_⟩
            simpa using VRel.snil
          · simp at hx
    · simp at hx

theorem slS_sound {φ : Phi} {t : TypeId} {v v' r : Value} {lo hi lo' hi' : Option Value} (ht : P.underlying t = some .string) (hv : VRel φ v v')
    (hlo : ORel φ lo lo') (hhi : ORel φ hi hi') (hx : slS v lo hi = some r) : plainV r = true ∧ (Instr.sliceAt t v' lo' hi' none).run P w = .ok r w := by
  unfold slS at hx
  split at hx
  · rename_i s
    cases hv
    cases hl : optN lo 0 with
    | none => simp [hl] at hx
    | some l =>
      cases hh : optN hi s.size with
      | none => simp [hl, hh] at hx
      | some h =>
        simp only [hl, hh, Option.bind_some] at hx
        split at hx
        · rename_i hc
          simp only [Option.some.injEq] at hx
          subst hx
          refine ⟨rfl, ?_⟩
          have hl1 := lo_run (P := P) w hlo hl h .sliceB hc.1
          cases hhi with
          | none =>
            simp only [optN, Option.some.injEq] at hh
            subst hh
            cases lo' <;> simp_all [Instr.sliceAt, run_underlying ht, Instr.slice, Instr.sliceBounds]
          | some hr =>
            have hh1 := run_bound (P := P) (y := s.size) w .sliceAlen hr hh hc.2
            cases lo' <;> simp_all [Instr.sliceAt, run_underlying ht, Instr.slice, Instr.sliceBounds]
        · simp at hx
  · simp at hx

end

end Go.Sim
