/-
  A region that draws its order: the law.
-/
import Derived.Test.YtkkgegocliobpaaSimS
set_option linter.unusedSimpArgs false
set_option linter.unusedVariables false
namespace Go.Sim
open Go.RowKit (Below)

section
variable {P : Program} {C : Ctx} {an : An} {φ0 φ : Phi} {ψ : Nat → Option Nat} {s0 s s' : St} {w0 w : World} {fr fr' : Fr} {a g : Act} {ops : Array Oper} {R : Type} {K : Fr → St → Option R} {r : R}
  {ord : List Ord1} {lE l : Array Bool} {F : List Nat} {E : List (Nat × Nat)}

theorem put_agree {d : Option Nat} {u : Value} {t : Nat} (hs : a.tmps.size = g.tmps.size) (h : d ≠ some t → a.tmps[t]? = g.tmps[t]?) : (a.put d u).tmps[t]? = (g.put d u).tmps[t]? := by
  cases d with
  | none => exact h (by simp)
  | some d =>
    by_cases ht : t = d
    · subst ht
      simp only [Act.put, Array.getElem?_setIfInBounds]
      simp [hs]
    · rw [get_put_other ht, get_put_other ht]
      exact h (by simp only [ne_eq, Option.some.injEq]; exact fun e => ht e.symm)

theorem mem_dstsE {t : Nat} : t ∈ dsts ops (E.map (·.1)) ↔ ∃ e ∈ E, ∃ o, ops[e.1]? = some o ∧ o.dst = some t := by
  rw [mem_dsts]
  constructor
  · rintro ⟨f, hf, o, h1, h2⟩
    obtain ⟨e, he, rfl⟩ := List.mem_map.1 hf
    exact ⟨e, he, o, h1, h2⟩
  · rintro ⟨e, he, o, h1, h2⟩
    exact ⟨e.1, List.mem_map.2 ⟨e, he, rfl⟩, o, h1, h2⟩

/-- One that stood out comes up. -/
theorem DInv.comes (hC : CtxOk P C) (h : DInv P C an ops φ0 s0 w0 ord lE l F E φ ψ s fr g a w) {f : Nat} (hf : f ∈ F) (hr : f ∈ Region.ready .any ops l) (hns : Region.noSelect ops = true) :
    ∃ o, ops[f]? = some o ∧ StepE P ops o a w fun u w' => ∃ g', DInv P C an ops φ0 s0 w0 ord lE (l.setIfInBounds f true) (F.erase f) E φ ψ s fr g' (a.put o.dst u) w' := by
  obtain ⟨o, x, ho, hc, hpv, hslot, hself, hok⟩ := h.pend f hf
  have hlt : f < ops.size := (Array.getElem?_eq_some_iff.1 ho).1
  have hfE : ∀ e ∈ E, f ≠ e.1 := fun e he hx => (h.inl he).2.2.2 (hx ▸ hf)
  obtain ⟨u, hy, hx⟩ := PS_sound hC h.inv hc hpv
  refine ⟨o, ho, StepE.same (g := g) (fun cs b => Region.noSelect_spec hns f o cs b ho) (fun t ht => h.agree t (fun hm => ?_) fun hm => ?_) (hy.step ?_)⟩
  · obtain ⟨k, hk, ok, hok2, hd⟩ := mem_dsts.1 hm
    by_cases hkf : k = f
    · subst hkf
      rw [ho] at hok2
      simp only [Option.some.injEq] at hok2
      subst hok2
      exact selfClear_spec hself t hd ht
    · rcases h.apartF k hk ok hok2 t hd f hf (Ne.symm hkf) o ho with h1 | h1
      · exact h.edge_listed hr ho hk h1
      · exact h1 ht
  · obtain ⟨e, he, oe, hoe, hd⟩ := mem_dstsE.1 hm
    exact (Oper.apart_spec (h.solo he hoe ho (hfE e he) (.inl hf))).1 t hd ht
  · have hinv := h.inv.reput hslot hx
    have hls : f < l.size := by rw [h.lsize]; exact hlt
    have hmono : ∀ j, l.getD j false = true → (l.setIfInBounds f true).getD j false = true := fun j hj => by rw [getD_set hls, hj]; simp
    refine ⟨g.put o.dst u, hinv, by simpa using h.size, by simpa using h.defers, fun t ht htE => put_agree h.size fun hd => h.agree t (fun hm => ?_) htE, by simpa using h.lsize, h.esize, fun j hj => ?_, fun k hk => h.sub k (List.mem_of_mem_erase hk), h.nodup.erase f,
      h.chain.erase hmono (by rw [getD_set hls]; simp) (fun j hj => by simp at hj), fun k hk => h.pend k (List.mem_of_mem_erase hk), fun k hk => h.apartO k (List.mem_of_mem_erase hk), fun k hk ok hok d hd j hj => h.apartF k (List.mem_of_mem_erase hk) ok hok d hd j (List.mem_of_mem_erase hj),
      fun k hk => h.predsF k (List.mem_of_mem_erase hk), h.ready, h.ndE, h.one,
      fun e he => h.early_keep hns ho (.inl hf) (.refl _) (Keeps.refl _ _) (fun t ht => put_keep ht) (fun t ht => put_keep ht) put_size (fun _ ha => ⟨ha, rfl⟩) he (hfE e he), fun e he oe hoe p hp hb => hmono _ (h.predsE e he oe hoe p hp hb)⟩
    · obtain ⟨k, hk, ok, hok2, hd2⟩ := mem_dsts.1 hm
      by_cases hkf : k = f
      · subst hkf
        rw [ho] at hok2
        simp only [Option.some.injEq] at hok2
        subst hok2
        exact hd hd2
      · exact ht (mem_dsts.2 ⟨k, (List.mem_erase_of_ne hkf).2 hk, ok, hok2, hd2⟩)
    · rw [getD_set hls, h.nodup.mem_erase_iff]
      by_cases hfj : f = j
      · subst hfj
        simp [h.sub f hf]
      · simp only [if_neg hfj, h.listed j hj]
        constructor
        · rintro (⟨h1, h2⟩ | h1)
          · exact .inl ⟨h1, fun hm => h2 hm.2⟩
          · exact .inr h1
        · rintro (⟨h1, h2⟩ | h1)
          · exact .inl ⟨h1, fun hm => h2 ⟨Ne.symm hfj, hm⟩⟩
          · exact .inr h1

theorem ahead_sound : ∀ {ks : List Nat} {X : Option R}, ahead std P C an ops ks fr s X = some r → X = some r ∧ ∀ k ∈ ks, ∃ o m q, ops[k]? = some o ∧ opR std P C an fr s none o = .s m ∧ m = some q ∧ an.pure ≠ true
  | [], X, h => ⟨h, fun k hk => by simp at hk⟩
  | k :: ks, X, h => by
    unfold ahead at h
    split at h
    · rename_i o ho
      split at h
      · rename_i m hm
        split at h
        · simp at h
        · rename_i hp
          simp only [std, Option.bind_eq_some_iff] at h
          obtain ⟨q, h1, h2⟩ := h
          obtain ⟨h3, h4⟩ := ahead_sound h2
          refine ⟨h3, fun j hj => ?_⟩
          rcases List.mem_cons.1 hj with rfl | hj
          · exact ⟨o, m, q, ho, hm, h1, hp⟩
          · exact h4 j hj
      · simp at h
    · simp at h

/-- What the head of an order tells. -/
theorem draw_head {k : Nat} {c : Cls} {rs ks : List Nat} {rest : List Ord1} (hc : ¬ c % 8 ≤ 2) (hd : drawOk ops ((k, c, rs, ks) :: rest) lE = true) :
    k ∈ Region.ready .any ops lE ∧ (∀ j ∈ Region.ready .any ops lE, j = k ∨ j ∈ ks) ∧ (∀ j ∈ ks, j ≠ k ∧ j ∈ Region.ready .any ops lE ∧ soloOk ops j = true) ∧ (∀ j ∈ Region.ready .any ops (setAll lE ks), j = k) ∧ drawOk ops rest (lE.setIfInBounds k true) = true := by
  simp only [drawOk, Bool.and_eq_true, if_neg hc, List.contains_iff_mem, List.all_eq_true, Bool.or_eq_true, beq_iff_eq, bne_iff_ne, ne_eq] at hd
  obtain ⟨⟨⟨⟨h1, h2⟩, h3⟩, h4⟩, h5⟩ := hd
  exact ⟨h1, h2, fun j hj => ⟨(h3 j hj).1.1, (h3 j hj).1.2, (h3 j hj).2⟩, h4, h5⟩

theorem setAll_size : ∀ {ks : List Nat} {l : Array Bool}, (setAll l ks).size = l.size
  | [], _ => rfl
  | k :: ks, l => by unfold setAll; rw [setAll_size]; simp

theorem setAll_get : ∀ {ks : List Nat} {l : Array Bool} {j : Nat}, (∀ k ∈ ks, k < l.size) → ((setAll l ks).getD j false = true ↔ l.getD j false = true ∨ j ∈ ks)
  | [], _, _, _ => by simp [setAll]
  | k :: ks, l, j, h => by
    unfold setAll
    rw [setAll_get (fun q hq => by simpa using h q (by simp [hq])), getD_set (h k (by simp))]
    by_cases hkj : k = j
    · subst hkj; simp
    · simp [hkj, Ne.symm hkj]

/-- What may come next: what stood out; the order's head; new memory made ahead. -/
theorem DInv.next {k : Nat} {c : Cls} {rs ks : List Nat} {rest : List Ord1} (h : DInv P C an ops φ0 s0 w0 ((k, c, rs, ks) :: rest) lE l F E φ ψ s fr g a w) (hc : ¬ c % 8 ≤ 2) (hkE : ∀ e ∈ E, k ≠ e.1)
    (hd : drawOk ops ((k, c, rs, ks) :: rest) lE = true) {i : Nat} (hi : i ∈ Region.ready .any ops l) : i ∈ F ∨ i = k ∨ i ∈ ks := by
  obtain ⟨h1, h2, h3, h4, _⟩ := draw_head hc hd
  rcases h.ready' hi with hf | ⟨g1, g2, o, g3, g4⟩
  · exact .inl hf
  · by_cases hik : i ∈ ks
    · exact .inr (.inr hik)
    · refine .inr (.inl (h4 i (mem_ready.2 ⟨?_, o, g3, fun e he hb => ?_⟩)))
      · have hlt : i < ops.size := (Array.getElem?_eq_some_iff.1 g3).1
        have hks : ∀ j ∈ ks, j < lE.size := fun j hj => by
          obtain ⟨_, oj, hoj, _⟩ := mem_ready.1 (h3 j hj).2.1
          rw [h.esize]; exact (Array.getElem?_eq_some_iff.1 hoj).1
        rw [getD_ff (by rw [setAll_size, h.esize]; exact hlt)]
        rw [getD_ff (by rw [h.esize]; exact hlt)] at g1
        cases hx : (setAll lE ks).getD i false with
        | false => rfl
        | true =>
          rcases (setAll_get hks).1 hx with hx | hx
          · rw [g1] at hx; cases hx
          · exact absurd hx hik
      · have hks : ∀ j ∈ ks, j < lE.size := fun j hj => by
          obtain ⟨_, oj, hoj, _⟩ := mem_ready.1 (h3 j hj).2.1
          rw [h.esize]; exact (Array.getElem?_eq_some_iff.1 hoj).1
        refine (setAll_get hks).2 ?_
        rcases g4 e he hb with g5 | g5
        · exact .inl g5
        · obtain ⟨q, hq, hqe⟩ := List.mem_map.1 g5
          rcases h2 q.1 (h.ready q hq) with h6 | h6
          · exact absurd h6.symm (hkE q hq)
          · exact .inr (hqe ▸ h6)

theorem DInv.pend_step {s' : St} {fr' : Fr} {k : Nat} {c : Cls} {rs ks : List Nat} {rest : List Ord1} (h : DInv P C an ops φ0 s0 w0 ((k, c, rs, ks) :: rest) lE l F E φ ψ s fr g a w) {o : Oper} (ho : ops[k]? = some o) (hcl : codeOf P C an ops fr o = c ∨ (clsOf P C an ops fr o ≤ 2 ∧ c = 3))
    (hedge : ∀ f ∈ F, edgeOn o f ≠ true) (hkeep : Keeps fr fr' o.dst) (hloc : clsOf P C an ops fr o ≤ 4 ∨ clsOf P C an ops fr o = 6 → LocSame fr fr') (hlat : clsOf P C an ops fr o = 5 → ∀ t, t ≠ slotOf ops fr o → LocAt t fr fr')
    (hext : clsOf P C an ops fr o ≤ 3 ∨ clsOf P C an ops fr o = 5 ∨ clsOf P C an ops fr o = 6 → Ext s s')
    (hrs : ∀ j ∈ rs, ∃ o d v, ops[j]? = some o ∧ o.dst = some d ∧ PS P C an ops fr' s' o (.e (.val v)) ∧ lookE fr'.e d = some (.val v) ∧ lookG fr'.g d = none) {f : Nat} (hf : f ∈ F) :
    ∃ o x, ops[f]? = some o ∧ clsOf P C an ops fr' o ≤ 2 ∧ PS P C an ops fr' s' o x ∧ (∀ d, o.dst = some d → SlotIn fr' d x) ∧ selfClear ops o = true ∧ okAfter ops o f (codeOf P C an ops fr' o) rest = true := by
  obtain ⟨of, xf, h1, h2, h3, h4, h5, h6⟩ := h.pend f hf
  simp only [okAfter, ho] at h6
  rw [if_neg (by simp only [Bool.and_eq_true]; exact fun e => hedge f hf e.1)] at h6
  simp only [Bool.and_eq_true] at h6
  obtain ⟨⟨h6, h7⟩, h8⟩ := h6
  have hcr := clear_spec h6
  have hs : SameOn (of.looksAt ops) fr fr' := hkeep.same fun y hy => (hcr y hy).1
  have hcs := clsOf_same (P := P) (C := C) (an := an) hs
  have hcd := codeOf_same (P := P) (C := C) (an := an) hs
  simp only [Bool.or_eq_true, List.contains_iff_mem] at h7
  rcases h7 with h7 | h7
  · have hne2 : ∀ d, of.dst = some d → o.dst ≠ some d := fun d hd e => (hcr d e).2 hd
    rcases hcl with hcl | ⟨hle, hcl⟩
    rotate_left
    · exact ⟨of, xf, h1, by rw [hcs]; exact h2, PS_keep h2 hs (fun _ => LocSame.at (hloc (.inl (Nat.le_trans hle (by decide)))) _) (fun _ => hext (.inl (Nat.le_trans hle (by decide)))) h3, fun d hd => (h4 d hd).keep hkeep (hne2 d hd), h5, by rw [hcd]; exact h8⟩
    subst hcl
    simp only [pres, Bool.or_eq_true, Bool.and_eq_true, decide_eq_true_eq, code_mod, code_div] at h7
    refine ⟨of, xf, h1, by rw [hcs]; exact h2, PS_keep h2 hs (fun e => ?_) (fun e => hext ?_) h3, fun d hd => ?_, h5, by rw [hcd]; exact h8⟩
    · rw [e] at h7
      rcases h7 with (((h7 | h7) | h7) | h7) | h7
      · simp at h7
      · exact LocSame.at (hloc (.inl (Nat.le_trans h7 (by decide)))) _
      · exact LocSame.at (hloc (.inl (by rw [h7.2]; decide))) _
      · exact LocSame.at (hloc (.inr h7)) _
      · rcases h7 with ⟨h7, h9 | h9⟩
        · simp at h9
        · exact hlat h7 _ h9
    · rw [e] at h7
      rcases h7 with (((h7 | h7) | h7) | h7) | h7
      · simp at h7
      · exact .inl h7
      · simp at h7
      · exact .inr (.inr h7)
      · exact .inr (.inl h7.1)
    · exact (h4 d hd).keep hkeep (hne2 d hd)
  · obtain ⟨oj, d, v, g1, g2, g3, g4, g5⟩ := hrs f h7
    rw [h1] at g1
    simp only [Option.some.injEq] at g1
    subst g1
    refine ⟨of, _, h1, by rw [hcs]; exact h2, g3, fun d' hd' => ?_, h5, by rw [hcd]; exact h8⟩
    rw [g2] at hd'
    simp only [Option.some.injEq] at hd'
    subst hd'
    exact ⟨g4, g5⟩

/-- One that has its place comes up. -/
theorem DInv.fixed (hC : CtxOk P C) {k : Nat} {c : Cls} {rs ks : List Nat} {rest : List Ord1} (h : DInv P C an ops φ0 s0 w0 ((k, c, rs, ks) :: rest) lE l F E φ ψ s fr g a w) (hc : ¬ c % 8 ≤ 2) (hr : k ∈ Region.ready .any ops l) (hkF : k ∉ F) (hkE : ∀ e ∈ E, k ≠ e.1) (hns : Region.noSelect ops = true)
    (hd : drawOk ops ((k, c, rs, ks) :: rest) lE = true) (he : evDraw std P C an ops ((k, c, rs, ks) :: rest) fr s K = some r) :
    ∃ o, ops[k]? = some o ∧ StepE P ops o a w fun u w' => ∃ φ' ψ' s' fr' g', DInv P C an ops φ0 s0 w0 rest (lE.setIfInBounds k true) (l.setIfInBounds k true) F E φ' ψ' s' fr' g' (a.put o.dst u) w' ∧
      drawOk ops rest (lE.setIfInBounds k true) = true ∧ evDraw std P C an ops rest fr' s' K = some r := by
  obtain ⟨hrE, _, _, _, hd2⟩ := draw_head hc hd
  simp only [evDraw] at he
  cases ho : ops[k]? with
  | none => simp [ho] at he
  | some o =>
    simp only [ho] at he
    have hlt : k < ops.size := (Array.getElem?_eq_some_iff.1 ho).1
    split at he
    · rename_i hcl
      have he := (ahead_sound he).1
      refine ⟨o, rfl, StepE.same (g := g) (fun cs b => Region.noSelect_spec hns k o cs b ho) (fun t ht => h.agree t (fun hm => ?_) fun hm => ?_) ?_⟩
      · obtain ⟨f, hf, of, hof, hdf⟩ := mem_dsts.1 hm
        rcases h.apartO f hf of hof t hdf (k, _) List.mem_cons_self o ho with h1 | h1
        · exact h.edge_listed hr ho hf h1
        · exact h1 ht
      · obtain ⟨e, he', oe, hoe, hde⟩ := mem_dstsE.1 hm
        exact (Oper.apart_spec (h.solo he' hoe ho (hkE e he') (.inr hrE))).1 t hde ht
      · have hst := evOp_eff hC h.inv o he
        have mono : ∀ {X Y : Value → World → Prop}, StepE P ops o g w X → (∀ u w', X u w' → Y u w') → StepE P ops o g w Y := by
          intro X Y h1 h2
          unfold StepE at *
          split
          · rename_i hw; rw [if_pos hw] at h1; exact DoesE.mono h1 h2
          · rename_i hw; rw [if_neg hw] at h1; exact h2 _ _ h1
        refine mono hst fun u w' ⟨φ', ψ', s', fr', hk, hinv, hkeep, hloc, hlat, hext, haway, hle⟩ => ?_
        obtain ⟨hk, hrs⟩ := rechk_sound hk
        refine ⟨φ', ψ', s', fr', g.put o.dst u, ?_, hd2, hk⟩
        have hls : k < l.size := by rw [h.lsize]; exact hlt
        have hes : k < lE.size := by rw [h.esize]; exact hlt
        have hmono : ∀ j, l.getD j false = true → (l.setIfInBounds k true).getD j false = true := fun j hj => by rw [getD_set hls, hj]; simp
        have hmonoE : ∀ j, lE.getD j false = true → (lE.setIfInBounds k true).getD j false = true := fun j hj => by rw [getD_set hes, hj]; simp
        refine ⟨hinv, by simpa using h.size, by simpa using h.defers, fun t ht htE => put_agree h.size fun _ => h.agree t ht htE, by simpa using h.lsize, by simpa using h.esize, fun j hj => ?_, fun f hf => ?_, h.nodup,
          Chain.mono hmono (fun j hj => by simp at hj) h.chain, fun f hf => h.pend_step ho hcl (fun f hf => h.edge_listed hr ho hf) hkeep hloc hlat hext hrs hf, fun f hf of hof d hdf q hq => h.apartO f hf of hof d hdf q (by simp [hq]), h.apartF,
          fun f hf of hof e he' hb => hmonoE _ (h.predsF f hf of hof e he' hb), fun e he' => ready_set (h.ready e he') (Ne.symm (hkE e he')) hes, h.ndE, h.one,
          fun e he' => h.early_keep hns ho (.inr hrE) hle hkeep (fun t ht => put_keep ht) (fun t ht => put_keep ht) put_size (haway _) he' (hkE e he'), fun e he' oe hoe p hp hb => hmono _ (h.predsE e he' oe hoe p hp hb)⟩
        · rw [getD_set hls, getD_set hes]
          by_cases hkj : k = j
          · subst hkj; simp [hkF]
          · simp only [if_neg hkj]; exact h.listed j hj
        · rw [getD_set hes, h.sub f hf]; simp
    · simp at he

/-- The order comes to new memory that has been made ahead. -/
theorem DInv.account (hC : CtxOk P C) {k cb : Nat} {c : Cls} {rs ks : List Nat} {rest : List Ord1} (h : DInv P C an ops φ0 s0 w0 ((k, c, rs, ks) :: rest) lE l F E φ ψ s fr g a w) (hkE : (k, cb) ∈ E) (hns : Region.noSelect ops = true)
    (hd : drawOk ops ((k, c, rs, ks) :: rest) lE = true) (he : evDraw std P C an ops ((k, c, rs, ks) :: rest) fr s K = some r) :
    ∃ φ' s' fr' g', DInv P C an ops φ0 s0 w0 rest (lE.setIfInBounds k true) l F (E.erase (k, cb)) φ' ψ s' fr' g' a w ∧ drawOk ops rest (lE.setIfInBounds k true) = true ∧ evDraw std P C an ops rest fr' s' K = some r := by
  obtain ⟨o, d, kb, va, mk, blk, ho, hod, hso, hsa, hat, hblk, haw, hw0⟩ := h.early _ hkE
  simp only at ho hso hat hblk haw hw0
  obtain ⟨hsk, hself, _⟩ := solo_spec ho hso
  have hlt : k < ops.size := (Array.getElem?_eq_some_iff.1 ho).1
  have hd2 : drawOk ops rest (lE.setIfInBounds k true) = true := by
    simp only [drawOk, Bool.and_eq_true] at hd
    exact hd.2
  simp only [evDraw, ho] at he
  split at he
  · rename_i hcl
    have he := (ahead_sound he).1
    obtain ⟨hg, _⟩ := sa_guard hsk
    obtain ⟨m, hm1, hm2⟩ := hsa.abs s
    obtain ⟨l0, hl0, hB, hV⟩ := hsa.rel φ w cb (.refl _) hblk
    have hle := Phi.le_add h.inv.step.rel l0
    obtain ⟨dst, op, ty, pos, after, guard⟩ := o
    simp only at hg hod
    subst hg; subst hod
    simp only [evOp, hm1] at he
    split at he
    · simp at he
    · rename_i hp
      simp only [hm2, std, Option.bind_some] at he
      have hinv1 := h.inv.account hp (hB.of_same hle rfl) (hl0.symm ▸ haw) (hl0.symm ▸ hw0)
      obtain ⟨fr', hk, ⟨hkeep, hlo, _⟩, hinv⟩ := hinv1.put (x := .val (va s.n)) (d := some d) (u := mk cb) (hV _ _ (Phi.add_self _ _ _)) he
      obtain ⟨hk, hrs⟩ := rechk_sound hk
      have hdlt : d < a.tmps.size := by
        simp only [putK] at he
        split at he
        · rename_i hd; rw [h.size, h.inv.size]; exact hd
        · simp at he
      obtain ⟨hl1, hl2, _, hkF⟩ := h.inl hkE
      simp only at hl1 hl2 hkF
      have hes : k < lE.size := by rw [h.esize]; exact hlt
      have hmonoE : ∀ j, lE.getD j false = true → (lE.setIfInBounds k true).getD j false = true := fun j hj => by rw [getD_set hes, hj]; simp
      have hrE := h.ready _ hkE
      have hnd := h.ndE
      have hne : ∀ e ∈ E.erase (k, cb), e ∈ E ∧ k ≠ e.1 := by
        intro e he'
        have he2 := List.mem_of_mem_erase he'
        refine ⟨he2, fun hx => ?_⟩
        have hndE : E.Nodup := (List.pairwise_map.1 hnd).imp fun h e => h (by rw [e])
        have h3 := (hndE.mem_erase_iff.1 he').1
        have : ∀ {L : List (Nat × Nat)}, (L.map (·.1)).Nodup → ∀ x ∈ L, ∀ y ∈ L, x.1 = y.1 → x = y := by
          intro L
          induction L with
          | nil => intro _ x hx; simp at hx
          | cons q L ih =>
            intro hn x hx y hy hxy
            simp only [List.map_cons, List.nodup_cons] at hn
            rcases List.mem_cons.1 hx with rfl | hx'
            · rcases List.mem_cons.1 hy with rfl | hy
              · rfl
              · exact absurd (List.mem_map.2 ⟨y, hy, hxy.symm⟩) hn.1
            · rcases List.mem_cons.1 hy with rfl | hy
              · exact absurd (show y.1 ∈ L.map (·.1) from List.mem_map.2 ⟨x, hx', hxy⟩) hn.1
              · exact ih hn.2 x hx' y hy hxy
        exact h3 (this hnd e he2 (k, cb) hkE hx.symm)
      have hmemE : ∀ j, j ∈ E.map (·.1) ↔ j = k ∨ j ∈ (E.erase (k, cb)).map (·.1) := by
        intro j
        constructor
        · intro hm
          obtain ⟨e, he', rfl⟩ := List.mem_map.1 hm
          by_cases hx : e = (k, cb)
          · exact .inl (by rw [hx])
          · exact .inr (List.mem_map.2 ⟨e, (List.mem_erase_of_ne hx).2 he', rfl⟩)
        · rintro (rfl | hm)
          · exact List.mem_map.2 ⟨_, hkE, rfl⟩
          · obtain ⟨e, he', rfl⟩ := List.mem_map.1 hm
            exact List.mem_map.2 ⟨e, List.mem_of_mem_erase he', rfl⟩
      have hcls3 : clsOf P C an ops fr ⟨some d, op, ty, pos, after, none⟩ ≤ 3 ∨ clsOf P C an ops fr ⟨some d, op, ty, pos, after, none⟩ = 5 ∨ clsOf P C an ops fr ⟨some d, op, ty, pos, after, none⟩ = 6 → Ext s (s.new kb) := fun _ => ext_new s h.inv.step.rel.lt kb
      refine ⟨_, _, fr', g.put (some d) (mk cb), ⟨hinv, by simpa using h.size, h.defers, fun t ht htE => ?_, h.lsize, by simpa using h.esize, fun j hj => ?_, fun f hf => hmonoE _ (h.sub f hf), h.nodup, h.chain,
        fun f hf => h.pend_step ho hcl (fun f hf hx => ?_) hkeep (fun _ => .of_eq hlo) (fun _ t _ => LocSame.at (.of_eq hlo) t) hcls3 hrs hf, fun f hf of hof d hdf q hq => h.apartO f hf of hof d hdf q (by simp [hq]), h.apartF,
        fun f hf of hof e he' hb => hmonoE _ (h.predsF f hf of hof e he' hb), fun e he' => ready_set (h.ready e (hne e he').1) (Ne.symm (hne e he').2) hes, ?_, fun e he' e' he2 => h.one e (hne e he').1 e' (hne e' he2).1,
        fun e he' => h.early_keep hns ho (.inr hrE) hle hkeep (fun t ht => put_keep ht) (fun _ _ => rfl) rfl (fun hx ha => ⟨?_, rfl⟩) (hne e he').1 (hne e he').2, fun e he' => h.predsE e (hne e he').1⟩, hd2, hk⟩
      · by_cases htd : t = d
        · subst htd
          rw [hat hdlt]
          have : t < g.tmps.size := by rw [← h.size]; exact hdlt
          simp [Act.put, Array.getElem?_setIfInBounds, this]
        · rw [get_put_other htd]
          refine h.agree t ht fun hm => ?_
          obtain ⟨e, he', oe, hoe, hde⟩ := mem_dstsE.1 hm
          by_cases hx : e = (k, cb)
          · subst hx
            rw [ho] at hoe
            simp only [Option.some.injEq] at hoe
            subst hoe
            simp only [Option.some.injEq] at hde
            exact htd hde.symm
          · exact htE (mem_dstsE.2 ⟨e, (List.mem_erase_of_ne hx).2 he', oe, hoe, hde⟩)
      · rw [h.listed j hj, hmemE j, getD_set hes]
        by_cases hkj : k = j
        · subst hkj; simp [hkF]
        · simp [hkj, Ne.symm hkj]
      · have hfl := edge_pred (h.predsE _ hkE _ ho) hx
        obtain ⟨of, _, hof, _⟩ := h.pend f hf
        rcases (h.listed f (Array.getElem?_eq_some_iff.1 hof).1).1 hfl with h1 | h1
        · exact h1.2 hf
        · obtain ⟨e', he', rfl⟩ := List.mem_map.1 h1
          exact (h.inl he').2.2.2 hf
      · exact List.Nodup.sublist (List.Sublist.map _ List.erase_sublist) hnd
      · refine ⟨fun b k2 l2 g1 g2 => ?_, by rw [hlo]; exact ha.loc⟩
        rw [St.get_new] at g1
        split at g1
        · rename_i hb
          subst hb
          rw [Phi.add_self] at g2
          simp only [Option.some.injEq] at g2
          subst g2
          rw [hl0]
          exact fun hx => (hne e he').2 (congrArg Prod.fst (h.one _ hkE e (hne e he').1 hx))
        · obtain ⟨l3, f1, f2⟩ := h.inv.step.rel.blk b k2 g1
          have := hle b l3 f1
          rw [this] at g2
          simp only [Option.some.injEq] at g2
          subst g2
          exact ha.row b k2 l3 g1 f1
  · simp at he

/-- New memory is made ahead of its place. -/
theorem DInv.soon (hC : CtxOk P C) {k : Nat} {c : Cls} {rs ks : List Nat} {rest : List Ord1} (h : DInv P C an ops φ0 s0 w0 ((k, c, rs, ks) :: rest) lE l F E φ ψ s fr g a w) (hc : ¬ c % 8 ≤ 2) (hns : Region.noSelect ops = true)
    (hd : drawOk ops ((k, c, rs, ks) :: rest) lE = true) (he : evDraw std P C an ops ((k, c, rs, ks) :: rest) fr s K = some r) {i : Nat} (hi : i ∈ ks) (hr : i ∈ Region.ready .any ops l) (hiF : i ∉ F) :
    ∃ o, ops[i]? = some o ∧ StepE P ops o a w fun u w' => ∃ cb, DInv P C an ops φ0 s0 w0 ((k, c, rs, ks) :: rest) lE (l.setIfInBounds i true) F ((i, cb) :: E) φ ψ s fr g (a.put o.dst u) w' := by
  obtain ⟨_, _, h3, _, _⟩ := draw_head hc hd
  obtain ⟨_, hrE, hso⟩ := h3 i hi
  simp only [evDraw] at he
  cases hok : ops[k]? with
  | none => simp [hok] at he
  | some ok =>
    simp only [hok] at he
    split at he
    · obtain ⟨o, m, q, ho, hm, hq, hp⟩ := (ahead_sound he).2 i hi
      obtain ⟨hsk, hself, hall⟩ := solo_spec ho hso
      obtain ⟨hg, d, hod⟩ := sa_guard hsk
      obtain ⟨kb, va, mk, blk, hsa⟩ := sa_of hsk h.inv.frel.toEnvRel hm hq
      have hlt : i < ops.size := (Array.getElem?_eq_some_iff.1 ho).1
      have hns' := fun cs b => Region.noSelect_spec hns i o cs b ho
      have hli : l.getD i false = false := by
        have := (mem_ready.1 hr).1
        rwa [getD_ff (by rw [h.lsize]; exact hlt)] at this
      have hiE : ∀ e ∈ E, i ≠ e.1 := fun e he' hx => by
        have := (h.inl he').2.1
        rw [← hx, hli] at this
        cases this
      have hpr : ∀ e ∈ o.after, Region.binds .any e = true → l.getD e.on false = true := by
        obtain ⟨_, o', ho', hall⟩ := mem_ready.1 hr
        rw [ho] at ho'
        simp only [Option.some.injEq] at ho'
        subst ho'
        exact hall
      have hapF : ∀ f ∈ F, ∀ of, ops[f]? = some of → o.apart ops of = true := fun f hf of hof => by
        refine hall f of (fun hx => hiF (hx ▸ hf)) hof (fun hx => ?_) (fun hx => ?_)
        · have := edge_pred (h.predsF f hf of hof) hx
          have h1 := (mem_ready.1 hrE).1
          rw [getD_ff (by rw [h.esize]; exact hlt), this] at h1
          cases h1
        · have := edge_pred hpr hx
          rcases (h.listed f (Array.getElem?_eq_some_iff.1 hof).1).1 this with h1 | h1
          · exact h1.2 hf
          · obtain ⟨e', he', rfl⟩ := List.mem_map.1 h1
            exact (h.inl he').2.2.2 hf
      have hagree : ∀ t ∈ o.looksAt ops, a.tmps[t]? = g.tmps[t]? := fun t ht => h.agree t (fun hm => by
          obtain ⟨f, hf, of, hof, hdf⟩ := mem_dsts.1 hm
          exact (Oper.apart_spec (hapF f hf of hof)).2.2 t hdf ht) fun hm => by
          obtain ⟨e, he', oe, hoe, hde⟩ := mem_dstsE.1 hm
          exact (Oper.apart_spec (h.solo he' hoe ho (hiE e he') (.inr hrE))).1 t hde ht
      have hex := exec_same hns' hagree
      have hls : i < l.size := by rw [h.lsize]; exact hlt
      have hmono : ∀ j, l.getD j false = true → (l.setIfInBounds i true).getD j false = true := fun j hj => by rw [getD_set hls, hj]; simp
      refine ⟨o, ho, ?_⟩
      unfold StepE
      rw [if_pos (by simp [Region.wanted, hg])]
      refine does_value (u := mk w.heap.size) (w' := w.alloc blk) (by rw [hex.1]; exact hsa.run w) ⟨w.heap.size, ?_⟩
      have hnew : (w.alloc blk).heap[w.heap.size]? = some blk := heap_alloc_new w _
      have hinv := h.inv.below (hsa.below w) (hsa.froz w)
      refine ⟨hinv, by simpa using h.size, by simpa using h.defers, fun t ht htE => ?_, by simpa using h.lsize, h.esize, fun j hj => ?_, h.sub, h.nodup, Chain.mono hmono (fun j hj => by simp at hj) h.chain, h.pend, h.apartO, h.apartF, h.predsF,
        fun e he' => ?_, ?_, fun e he' e' he2 hx => ?_, fun e he' => ?_, fun e he' oe hoe p hp hb => ?_⟩
      · have h1 : o.dst ≠ some t := fun hx => htE (mem_dstsE.2 ⟨(i, w.heap.size), by simp, o, ho, hx⟩)
        rw [put_keep h1]
        exact h.agree t ht fun hm => htE (by
          obtain ⟨e, he', x⟩ := mem_dstsE.1 hm
          exact mem_dstsE.2 ⟨e, by simp [he'], x⟩)
      · rw [getD_set hls, List.map_cons, List.mem_cons]
        by_cases hij : i = j
        · subst hij; simp
        · simp only [if_neg hij, h.listed j hj, Ne.symm hij, false_or]
      · rcases List.mem_cons.1 he' with rfl | he'
        · exact hrE
        · exact h.ready e he'
      · rw [List.map_cons, List.nodup_cons]
        exact ⟨fun hm => by
          obtain ⟨e, he', hx⟩ := List.mem_map.1 hm
          exact hiE e he' hx.symm, h.ndE⟩
      · have hold : ∀ e ∈ E, e.2 ≠ w.heap.size := fun e he' hx => by
          obtain ⟨_, _, _, _, _, _, _, _, _, _, _, h6, _⟩ := h.early e he'
          have := (Array.getElem?_eq_some_iff.1 h6).1
          omega
        rcases List.mem_cons.1 he' with rfl | he'
        · rcases List.mem_cons.1 he2 with rfl | he2
          · rfl
          · exact absurd hx.symm (hold e' he2)
        · rcases List.mem_cons.1 he2 with rfl | he2
          · exact absurd hx (hold e he')
          · exact h.one e he' e' he2 hx
      · rcases List.mem_cons.1 he' with rfl | he'
        · refine ⟨o, d, kb, va, mk, blk, ho, hod, hso, hsa, fun hdl => ?_, hnew, ⟨fun b k2 l2 g1 g2 hx => ?_, fun t cs hl hx => ?_⟩, h.inv.step.frm.size⟩
          · simp only [put_size] at hdl
            rw [hod]
            simp [Act.put, Array.getElem?_setIfInBounds, hdl]
          · obtain ⟨l3, f1, f2⟩ := h.inv.step.rel.blk b k2 g1
            rw [f1] at g2
            simp only [Option.some.injEq] at g2
            subst g2
            have := f2.lt
            simp only at hx
            omega
          · obtain ⟨c2, f1, f2⟩ := h.inv.frel.loc t cs hl
            rw [hx] at f1
            simp only [Option.some.injEq] at f1
            have := f2.lt
            omega
        · obtain ⟨oe, d', kb', va', mk', blk', g1, g2, g3, g4, g5, g6, g7, g8⟩ := h.early e he'
          have hap := Oper.apart_spec (h.solo he' g1 ho (hiE e he') (.inr hrE))
          refine ⟨oe, d', kb', va', mk', blk', g1, g2, g3, g4, fun hdl => ?_, ?_, g7, g8⟩
          · rw [put_keep fun hx => hap.2.1 d' g2 hx]
            exact g5 (by simpa using hdl)
          · rw [heap_alloc_old w _ _ (Array.getElem?_eq_some_iff.1 g6).1]
            exact g6
      · rcases List.mem_cons.1 he' with rfl | he'
        · rw [ho] at hoe
          simp only [Option.some.injEq] at hoe
          subst hoe
          exact hmono _ (hpr p hp hb)
        · exact hmono _ (h.predsE e he' oe hoe p hp hb)
    · simp at he

theorem DInv.settle (hC : CtxOk P C) (hns : Region.noSelect ops = true) : ∀ {ord : List Ord1} {lE : Array Bool} {F : List Nat} {E : List (Nat × Nat)} {φ : Phi} {s : St} {fr : Fr} {g : Act}, DInv P C an ops φ0 s0 w0 ord lE l F E φ ψ s fr g a w → drawOk ops ord lE = true → evDraw std P C an ops ord fr s K = some r →
    ∃ ord' lE' F' E' φ' s' fr' g', DInv P C an ops φ0 s0 w0 ord' lE' l F' E' φ' ψ s' fr' g' a w ∧ drawOk ops ord' lE' = true ∧ evDraw std P C an ops ord' fr' s' K = some r ∧ F'.length + ord'.length + E.length = F.length + ord.length + E'.length ∧
      (ord' = [] ∨ ∃ k c rs ks rest, ord' = (k, c, rs, ks) :: rest ∧ ¬ c % 8 ≤ 2 ∧ ∀ e ∈ E', k ≠ e.1)
  | [], lE, F, E, φ, s, fr, g, h, hd, he => ⟨[], lE, F, E, φ, s, fr, g, h, hd, he, rfl, .inl rfl⟩
  | (i, c, rs, ks) :: rest, lE, F, E, φ, s, fr, g, h, hd, he => by
    by_cases hE : ∃ e ∈ E, i = e.1
    · obtain ⟨⟨i', cb⟩, hm, hx⟩ := hE
      simp only at hx
      subst hx
      obtain ⟨φ', s', fr', g', h1, h2, h3⟩ := h.account hC hm hns hd he
      obtain ⟨o', l', F', E', f1, f2, f3, f4, k1, k2, k3, k4, k5⟩ := DInv.settle hC hns h1 h2 h3
      refine ⟨o', l', F', E', f1, f2, f3, f4, k1, k2, k3, ?_, k5⟩
      rw [List.length_erase_of_mem hm] at k4
      have : 0 < E.length := List.length_pos_of_mem hm
      simp; omega
    · have hE' : ∀ e ∈ E, i ≠ e.1 := fun e he' hx => hE ⟨e, he', hx⟩
      by_cases hc : c % 8 ≤ 2
      · obtain ⟨fr', g', h1, h2, h3⟩ := h.absorb hC hns hc hd he
        obtain ⟨o', l', F', E', f1, f2, f3, f4, k1, k2, k3, k4, k5⟩ := DInv.settle hC hns h1 h2 h3
        refine ⟨o', l', F', E', f1, f2, f3, f4, k1, k2, k3, ?_, k5⟩
        simp at k4 ⊢; omega
      · exact ⟨_, lE, F, E, φ, s, fr, g, h, hd, he, rfl, .inr ⟨i, c, rs, ks, rest, rfl, hc, hE'⟩⟩

theorem wpOp_step {o : Oper} {i : Nat} {X : Value → World → Prop} {Q : Exit → Act → World → Prop} {next : Act → World → Prop} (ho : ops[i]? = some o) (h : StepE P ops o a w X) (hn : ∀ u w', X u w' → next (a.put o.dst u) w') : wpOp P ops Q i next a w := by
  unfold Go.wpOp
  simp only [ho]
  exact h.wpOp hn

theorem drawOk_mem : ∀ {ord : List Ord1} {l : Array Bool}, drawOk ops ord l = true → ∀ k ∈ Region.ready .any ops l, k ∈ ord.map (·.1)
  | [], l, h, k, hk => by
    simp only [drawOk, List.isEmpty_iff] at h
    rw [h] at hk
    simp at hk
  | (i, c, rs, ks) :: rest, l, h, k, hk => by
    by_cases hki : k = i
    · simp [hki]
    · have hil : i < l.size := by
        have := drawOk_unlisted h (i, c, rs, ks) (by simp)
        exact lt_of_getD' this
      simp only [drawOk, Bool.and_eq_true] at h
      have := drawOk_mem h.2 k (ready_set hk hki hil)
      simp only [List.map_cons, List.mem_cons]
      exact .inr this

theorem nodup_len : ∀ {A B : List Nat}, A.Nodup → (∀ x ∈ A, x ∈ B) → A.length ≤ B.length
  | [], _, _, _ => by simp
  | x :: A, B, h, hs => by
    simp only [List.nodup_cons] at h
    have hx := hs x (by simp)
    have := nodup_len h.2 (B := B.erase x) fun y hy => (List.mem_erase_of_ne (fun e : y = x => h.1 (by rw [← e]; exact hy))).2 (hs y (by simp [hy]))
    rw [List.length_erase_of_mem hx] at this
    have : 0 < B.length := List.length_pos_of_mem hx
    simp; omega

theorem DInv.run (hC : CtxOk P C) (hns : Region.noSelect ops = true) {Q : Exit → Act → World → Prop}
    (hK : ∀ φ' ψ' s' fr' a' w', InvA an φ0 s0 w0 φ' ψ' s' fr' a' w' → K fr' s' = some r → Q .normal a' w') :
    ∀ (fuel : Nat) {ord : List Ord1} {lE l : Array Bool} {F : List Nat} {E : List (Nat × Nat)} {φ : Phi} {ψ : Nat → Option Nat} {s : St} {fr : Fr} {g a : Act} {w : World}, DInv P C an ops φ0 s0 w0 ord lE l F E φ ψ s fr g a w → F.length + ord.length ≤ fuel + E.length →
      drawOk ops ord lE = true → evDraw std P C an ops ord fr s K = some r → wpAny P .any ops Q fuel l a w := by
  have noE : ∀ {lE l : Array Bool} {F : List Nat} {E : List (Nat × Nat)} {φ : Phi} {ψ : Nat → Option Nat} {s : St} {fr : Fr} {g a : Act} {w : World}, DInv P C an ops φ0 s0 w0 [] lE l F E φ ψ s fr g a w → drawOk ops [] lE = true → E = [] := by
    intro lE l F E φ ψ s fr g a w h hd
    cases E with
    | nil => rfl
    | cons e E =>
      have := drawOk_mem hd e.1 (h.ready e (by simp))
      simp at this
  have fin : ∀ {lE l : Array Bool} {φ : Phi} {ψ : Nat → Option Nat} {s : St} {fr : Fr} {g a : Act} {w : World}, DInv P C an ops φ0 s0 w0 [] lE l [] [] φ ψ s fr g a w → evDraw std P C an ops [] fr s K = some r → Q .normal a w := by
    intro lE l φ ψ s fr g a w h he
    have hag : a = g := by
      have h1 : a.tmps = g.tmps := Array.ext_getElem? fun t => h.agree t (by simp [dsts]) (by simp [dsts])
      have h2 : a.defers = g.defers := h.defers.trans h.inv.defers.symm
      cases a; cases g; simp_all
    rw [hag]
    exact hK _ _ _ _ _ _ h.inv he
  intro fuel
  induction fuel with
  | zero =>
    intro ord lE l F E φ ψ s fr g a w h hf hd he
    obtain ⟨ord, lE, F, E', φ, s, fr, g, h, hd, he, hlen, hhead⟩ := DInv.settle hC hns h hd he
    have hO : ord = [] := by
      rcases hhead with rfl | ⟨k, c, rs, ks, rest, rfl, hc, hkE⟩
      · rfl
      · exfalso
        have := nodup_len h.ndE (B := rest.map (·.1)) fun x hx => by
          obtain ⟨e, he', rfl⟩ := List.mem_map.1 hx
          have := drawOk_mem hd e.1 (h.ready e he')
          simp only [List.map_cons, List.mem_cons] at this
          rcases this with h1 | h1
          · exact absurd h1.symm (hkE e he')
          · exact h1
        simp at this hlen
        omega
    subst hO
    have hE := noE h hd
    subst hE
    have hF : F = [] := List.length_eq_zero_iff.1 (by simp at hlen; omega)
    subst hF
    refine ⟨?_, fin h he⟩
    apply List.eq_nil_iff_forall_not_mem.2
    intro k hk
    rcases h.ready' hk with h1 | ⟨g1, _, o, g3, g4⟩
    · simp at h1
    · have : k ∈ Region.ready .any ops lE := mem_ready.2 ⟨g1, o, g3, fun e he' hb => by
        rcases g4 e he' hb with g5 | g5
        · exact g5
        · simp at g5⟩
      have := drawOk_mem hd k this
      simp at this
  | succ fuel ih =>
    intro ord lE l F E φ ψ s fr g a w h hf hd he
    obtain ⟨ord, lE, F, E', φ, s, fr, g, h, hd, he, hlen, hhead⟩ := DInv.settle hC hns h hd he
    refine ⟨fun h0 => ?_, fun i hi => ?_⟩
    · cases F with
      | cons f F => have := h.first; rw [h0] at this; simp at this
      | nil =>
        rcases hhead with rfl | ⟨k, c, rs, ks, rest, rfl, hc, hkE⟩
        · have hE := noE h hd
          subst hE
          exact fin h he
        · exfalso
          have hr := (draw_head hc hd).1
          obtain ⟨g1, o, g2, g3⟩ := mem_ready.1 hr
          have hlt : k < ops.size := (Array.getElem?_eq_some_iff.1 g2).1
          have : k ∈ Region.ready .any ops l := mem_ready.2 ⟨by
            rw [getD_ff (by rw [h.lsize]; exact hlt)]
            rw [getD_ff (by rw [h.esize]; exact hlt)] at g1
            cases hl : l.getD k false with
            | false => rfl
            | true =>
              rcases (h.listed k hlt).1 hl with h1 | h1
              · rw [g1] at h1; cases h1.1
              · obtain ⟨e, he', hx⟩ := List.mem_map.1 h1
                exact absurd hx.symm (hkE e he'), o, g2, fun e he' hb => by
            have h3 := g3 e he' hb
            have hl3 := lt_of_getD h3
            rw [h.esize] at hl3
            exact (h.listed _ hl3).2 (.inl ⟨h3, by simp⟩)⟩
          rw [h0] at this
          simp at this
    · by_cases hiF : i ∈ F
      · obtain ⟨o, ho, hst⟩ := h.comes hC hiF hi hns
        refine wpOp_step ho hst fun u w' ⟨g', h'⟩ => ih h' ?_ hd he
        rw [List.length_erase_of_mem hiF]
        have : 0 < F.length := List.length_pos_of_mem hiF
        omega
      · rcases hhead with rfl | ⟨k, c, rs, ks, rest, rfl, hc, hkE⟩
        · exfalso
          have hE := noE h hd
          subst hE
          rcases h.ready' hi with h1 | ⟨g1, _, o, g3, g4⟩
          · exact hiF h1
          · have : i ∈ Region.ready .any ops lE := mem_ready.2 ⟨g1, o, g3, fun e he' hb => by
              rcases g4 e he' hb with g5 | g5
              · exact g5
              · simp at g5⟩
            have := drawOk_mem hd i this
            simp at this
        · rcases h.next hc hkE hd hi with h1 | rfl | h1
          · exact absurd h1 hiF
          · obtain ⟨o, ho, hst⟩ := h.fixed hC hc hi hiF hkE hns hd he
            refine wpOp_step ho hst fun u w' ⟨φ', ψ', s', fr', g', h', hd', he'⟩ => ih h' ?_ hd' he'
            simp at hlen
            omega
          · obtain ⟨o, ho, hst⟩ := h.soon hC hc hns hd he h1 hi hiF
            refine wpOp_step ho hst fun u w' ⟨cb, h'⟩ => ih h' ?_ hd he
            simp at hlen ⊢
            omega

/-- **A region that draws its order.** -/
theorem evDraw_sound (hC : CtxOk P C) (hm : P.follows .mixedOrders = true) {id : Nat} {Q : Exit → Act → World → Prop} (hns : Region.noSelect ops = true) (hlen : ord.length ≤ ops.size) (hd : drawOk ops ord (Array.replicate ops.size false) = true)
    (h : InvA an φ0 s0 w0 φ ψ s fr a w) (he : evDraw std P C an ops ord fr s K = some r)
    (hK : ∀ φ' ψ' s' fr' a' w', InvA an φ0 s0 w0 φ' ψ' s' fr' a' w' → K fr' s' = some r → Q .normal a' w') : (Code.region id ops true).wp P Q a w := by
  refine wp_region_any hm (DInv.run hC hns hK ops.size (F := []) (E := []) (φ := φ) (ψ := ψ) (s := s) (fr := fr) (g := a) ⟨?_, rfl, h.defers, fun _ _ _ => rfl, by simp, by simp, fun j hj => ?_, fun f hf => by simp at hf, by simp, trivial, fun f hf => by simp at hf, fun f hf => by simp at hf, fun f hf => by simp at hf,
    fun f hf => by simp at hf, fun f hf => by simp at hf, by simp, fun f hf => by simp at hf, fun f hf => by simp at hf, fun f hf => by simp at hf⟩ (by simpa using hlen) hd he)
  · exact h.below ((Below.refl _ _).drew) fun _ _ => rfl
  · simp

end
end Go.Sim
