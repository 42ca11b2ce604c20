/-
  A region that draws its order: the law.
-/
import Derived.Test.YtonnegfkokghdaaSimS
set_option linter.unusedSimpArgs false
set_option linter.unusedVariables false
namespace Go.Sim
open Go.RowKit (Below)

section
variable {P : Program} {C : Ctx} {an : An} {φ0 φ : Phi} {ψ : Nat → Option Nat} {s0 s s' : St} {w0 w : World} {fr fr' : Fr} {a g : Act} {ops : Array Oper} {R : Type} {K : Fr → St → Option R} {r : R}
  {ord : List (Nat × Cls)} {lE l : Array Bool} {F : List Nat}

theorem put_agree {d : Option Nat} {u : Value} {t : Nat} (hs : a.tmps.size = g.tmps.size) (h : d ≠ some t → a.tmps[t]? = g.tmps[t]?) : (a.put d u).tmps[t]? = (g.put d u).tmps[t]? := by
  cases d with
  | none => exact h (by simp)
  | some d =>
    by_cases ht : t = d
    · subst ht
      simp only [Act.put, Array.getElem?_setIfInBounds]
      simp [hs]
    · rw [get_put_other ht, get_put_other ht]
      exact h (by simp only [ne_eq, Option.some.injEq]; exact fun e => ht e.symm)

/-- One that stood out comes up. -/
theorem DInv.comes (hC : CtxOk P C) (h : DInv P C an ops φ0 s0 w0 ord lE l F φ ψ s fr g a w) {f : Nat} (hf : f ∈ F) (hr : f ∈ Region.ready .any ops l) (hns : Region.noSelect ops = true) :
    ∃ o, ops[f]? = some o ∧ StepE P ops o a w fun u w' => ∃ g', DInv P C an ops φ0 s0 w0 ord lE (l.setIfInBounds f true) (F.erase f) φ ψ s fr g' (a.put o.dst u) w' := by
  obtain ⟨o, x, ho, hc, hpv, hslot, hself, hok⟩ := h.pend f hf
  have hlt : f < ops.size := (Array.getElem?_eq_some_iff.1 ho).1
  obtain ⟨u, hy, hx⟩ := PS_sound hC h.inv hc hpv
  refine ⟨o, ho, StepE.same (g := g) (fun cs b => Region.noSelect_spec hns f o cs b ho) (fun t ht => h.agree t fun hm => ?_) (hy.step ?_)⟩
  · obtain ⟨k, hk, ok, hok2, hd⟩ := mem_dsts.1 hm
    by_cases hkf : k = f
    · subst hkf
      rw [ho] at hok2
      simp only [Option.some.injEq] at hok2
      subst hok2
      exact selfClear_spec hself t hd ht
    · rcases h.apartF k hk ok hok2 t hd f hf (Ne.symm hkf) o ho with h1 | h1
      · exact h.edge_listed hr ho hk h1
      · exact h1 ht
  · have hinv := h.inv.reput hslot hx
    have hls : f < l.size := by rw [h.lsize]; exact hlt
    have hmono : ∀ j, l.getD j false = true → (l.setIfInBounds f true).getD j false = true := fun j hj => by rw [getD_set hls, hj]; simp
    refine ⟨g.put o.dst u, hinv, by simpa using h.size, by simpa using h.defers, fun t ht => put_agree h.size fun hd => h.agree t fun hm => ?_, by simpa using h.lsize, h.esize, fun j hj => ?_, fun k hk => h.sub k (List.mem_of_mem_erase hk), h.nodup.erase f,
      h.chain.erase hmono (by rw [getD_set hls]; simp) (fun j hj => by simp at hj), fun k hk => h.pend k (List.mem_of_mem_erase hk), fun k hk => h.apartO k (List.mem_of_mem_erase hk), fun k hk ok hok d hd j hj => h.apartF k (List.mem_of_mem_erase hk) ok hok d hd j (List.mem_of_mem_erase hj)⟩
    · obtain ⟨k, hk, ok, hok2, hd2⟩ := mem_dsts.1 hm
      by_cases hkf : k = f
      · subst hkf
        rw [ho] at hok2
        simp only [Option.some.injEq] at hok2
        subst hok2
        exact hd hd2
      · exact ht (mem_dsts.2 ⟨k, (List.mem_erase_of_ne hkf).2 hk, ok, hok2, hd2⟩)
    · rw [getD_set hls, h.nodup.mem_erase_iff]
      by_cases hfj : f = j
      · subst hfj
        simp [h.sub f hf]
      · simp only [if_neg hfj, h.listed j hj]
        constructor
        · rintro ⟨h1, h2⟩; exact ⟨h1, fun hm => h2 hm.2⟩
        · rintro ⟨h1, h2⟩; exact ⟨h1, fun hm => h2 ⟨Ne.symm hfj, hm⟩⟩

/-- One that has its place comes up. -/
theorem DInv.fixed (hC : CtxOk P C) {k : Nat} {c : Cls} {rest : List (Nat × Cls)} (h : DInv P C an ops φ0 s0 w0 ((k, c) :: rest) lE l F φ ψ s fr g a w) (hc : ¬ c % 8 ≤ 2) (hr : k ∈ Region.ready .any ops l) (hkF : k ∉ F) (hns : Region.noSelect ops = true)
    (hd : drawOk ops ((k, c) :: rest) lE = true) (he : evDraw std P C an ops ((k, c) :: rest) fr s K = some r) :
    ∃ o, ops[k]? = some o ∧ StepE P ops o a w fun u w' => ∃ φ' ψ' s' fr' g', DInv P C an ops φ0 s0 w0 rest (lE.setIfInBounds k true) (l.setIfInBounds k true) F φ' ψ' s' fr' g' (a.put o.dst u) w' ∧
      drawOk ops rest (lE.setIfInBounds k true) = true ∧ evDraw std P C an ops rest fr' s' K = some r := by
  simp only [drawOk, Bool.and_eq_true] at hd
  obtain ⟨hd1, hd2⟩ := hd
  simp only [evDraw] at he
  cases ho : ops[k]? with
  | none => simp [ho] at he
  | some o =>
    simp only [ho] at he
    have hlt : k < ops.size := (Array.getElem?_eq_some_iff.1 ho).1
    split at he
    · rename_i hcl
      subst hcl
      refine ⟨o, rfl, StepE.same (g := g) (fun cs b => Region.noSelect_spec hns k o cs b ho) (fun t ht => h.agree t fun hm => ?_) ?_⟩
      · obtain ⟨f, hf, of, hof, hdf⟩ := mem_dsts.1 hm
        rcases h.apartO f hf of hof t hdf (k, _) List.mem_cons_self o ho with h1 | h1
        · exact h.edge_listed hr ho hf h1
        · exact h1 ht
      · have hst := evOp_eff hC h.inv o he
        have mono : ∀ {X Y : Value → World → Prop}, StepE P ops o g w X → (∀ u w', X u w' → Y u w') → StepE P ops o g w Y := by
          intro X Y h1 h2
          unfold StepE at *
          split
          · rename_i hw; rw [if_pos hw] at h1; exact DoesE.mono h1 h2
          · rename_i hw; rw [if_neg hw] at h1; exact h2 _ _ h1
        refine mono hst fun u w' ⟨φ', ψ', s', fr', hk, hinv, hkeep, hloc, hlat, hext⟩ => ⟨φ', ψ', s', fr', g.put o.dst u, ?_, hd2, hk⟩
        have hls : k < l.size := by rw [h.lsize]; exact hlt
        have hes : k < lE.size := by rw [h.esize]; exact hlt
        have hmono : ∀ j, l.getD j false = true → (l.setIfInBounds k true).getD j false = true := fun j hj => by rw [getD_set hls, hj]; simp
        refine ⟨hinv, by simpa using h.size, by simpa using h.defers, fun t ht => put_agree h.size fun _ => h.agree t ht, by simpa using h.lsize, by simpa using h.esize, fun j hj => ?_, fun f hf => ?_, h.nodup,
          Chain.mono hmono (fun j hj => by simp at hj) h.chain, fun f hf => ?_, fun f hf of hof d hdf q hq => h.apartO f hf of hof d hdf q (by simp [hq]), h.apartF⟩
        · rw [getD_set hls, getD_set hes]
          by_cases hkj : k = j
          · subst hkj; simp [hkF]
          · simp only [if_neg hkj]; exact h.listed j hj
        · rw [getD_set hes, h.sub f hf]; simp
        · obtain ⟨of, xf, h1, h2, h3, h4, h5, h6⟩ := h.pend f hf
          simp only [okAfter, ho] at h6
          rw [if_neg (by simp only [Bool.and_eq_true]; exact fun e => h.edge_listed hr ho hf e.1)] at h6
          simp only [Bool.and_eq_true] at h6
          obtain ⟨⟨h6, h7⟩, h8⟩ := h6
          have hcl := clear_spec h6
          have hs : SameOn (of.looksAt ops) fr fr' := hkeep.same fun y hy => (hcl y hy).1
          have hcs := clsOf_same (P := P) (C := C) (an := an) hs
          have hcd := codeOf_same (P := P) (C := C) (an := an) hs
          simp only [pres, Bool.or_eq_true, Bool.and_eq_true, decide_eq_true_eq, code_mod, code_div] at h7
          refine ⟨of, xf, h1, by rw [hcs]; exact h2, PS_keep h2 hs (fun e => ?_) (fun e => hext ?_) h3, fun d hd => ?_, h5, by rw [hcd]; exact h8⟩
          · rw [e] at h7
            rcases h7 with (((h7 | h7) | h7) | h7) | h7
            · simp at h7
            · exact LocSame.at (hloc (.inl (Nat.le_trans h7 (by decide)))) _
            · exact LocSame.at (hloc (.inl (by rw [h7.2]; decide))) _
            · exact LocSame.at (hloc (.inr h7)) _
            · rcases h7 with ⟨h7, h9 | h9⟩
              · simp at h9
              · exact hlat h7 _ h9
          · rw [e] at h7
            rcases h7 with (((h7 | h7) | h7) | h7) | h7
            · simp at h7
            · exact .inl h7
            · simp at h7
            · exact .inr (.inr h7)
            · exact .inr (.inl h7.1)
          · have hne : o.dst ≠ some d := fun e => (hcl d e).2 hd
            exact (h4 d hd).keep hkeep hne
    · simp at he

theorem DInv.settle (hC : CtxOk P C) : ∀ {ord : List (Nat × Cls)} {lE : Array Bool} {F : List Nat} {fr : Fr} {g : Act}, DInv P C an ops φ0 s0 w0 ord lE l F φ ψ s fr g a w → drawOk ops ord lE = true → evDraw std P C an ops ord fr s K = some r →
    ∃ ord' lE' F' fr' g', DInv P C an ops φ0 s0 w0 ord' lE' l F' φ ψ s fr' g' a w ∧ drawOk ops ord' lE' = true ∧ evDraw std P C an ops ord' fr' s K = some r ∧ F'.length + ord'.length = F.length + ord.length ∧ (ord' = [] ∨ ∃ k c rest, ord' = (k, c) :: rest ∧ ¬ c % 8 ≤ 2)
  | [], lE, F, fr, g, h, hd, he => ⟨[], lE, F, fr, g, h, hd, he, rfl, .inl rfl⟩
  | (i, c) :: rest, lE, F, fr, g, h, hd, he => by
    by_cases hc : c % 8 ≤ 2
    · obtain ⟨fr', g', h1, h2, h3⟩ := h.absorb hC hc hd he
      obtain ⟨o', l', F', f', g'', k1, k2, k3, k4, k5⟩ := DInv.settle hC h1 h2 h3
      refine ⟨o', l', F', f', g'', k1, k2, k3, ?_, k5⟩
      rw [k4]; simp; omega
    · exact ⟨_, lE, F, fr, g, h, hd, he, rfl, .inr ⟨i, c, rest, rfl, hc⟩⟩

theorem wpOp_step {o : Oper} {i : Nat} {X : Value → World → Prop} {Q : Exit → Act → World → Prop} {next : Act → World → Prop} (ho : ops[i]? = some o) (h : StepE P ops o a w X) (hn : ∀ u w', X u w' → next (a.put o.dst u) w') : wpOp P ops Q i next a w := by
  unfold Go.wpOp
  simp only [ho]
  exact h.wpOp hn

theorem DInv.run (hC : CtxOk P C) (hns : Region.noSelect ops = true) {Q : Exit → Act → World → Prop}
    (hK : ∀ φ' ψ' s' fr' a' w', InvA an φ0 s0 w0 φ' ψ' s' fr' a' w' → K fr' s' = some r → Q .normal a' w') :
    ∀ (fuel : Nat) {ord : List (Nat × Cls)} {lE l : Array Bool} {F : List Nat} {φ : Phi} {ψ : Nat → Option Nat} {s : St} {fr : Fr} {g a : Act} {w : World}, DInv P C an ops φ0 s0 w0 ord lE l F φ ψ s fr g a w → F.length + ord.length ≤ fuel →
      drawOk ops ord lE = true → evDraw std P C an ops ord fr s K = some r → wpAny P .any ops Q fuel l a w := by
  have fin : ∀ {lE l : Array Bool} {φ : Phi} {ψ : Nat → Option Nat} {s : St} {fr : Fr} {g a : Act} {w : World}, DInv P C an ops φ0 s0 w0 [] lE l [] φ ψ s fr g a w → evDraw std P C an ops [] fr s K = some r → Q .normal a w := by
    intro lE l φ ψ s fr g a w h he
    have hag : a = g := by
      have h1 : a.tmps = g.tmps := Array.ext_getElem? fun t => h.agree t (by simp [dsts])
      have h2 : a.defers = g.defers := h.defers.trans h.inv.defers.symm
      cases a; cases g; simp_all
    rw [hag]
    exact hK _ _ _ _ _ _ h.inv he
  intro fuel
  induction fuel with
  | zero =>
    intro ord lE l F φ ψ s fr g a w h hf hd he
    have hF : F = [] := List.length_eq_zero_iff.1 (by omega)
    have hO : ord = [] := List.length_eq_zero_iff.1 (by omega)
    subst hF; subst hO
    refine ⟨?_, fin h he⟩
    apply List.eq_nil_iff_forall_not_mem.2
    intro k hk
    rcases h.ready hk with h1 | h1
    · simp at h1
    · simp only [drawOk, List.isEmpty_iff] at hd
      rw [hd] at h1
      simp at h1
  | succ fuel ih =>
    intro ord lE l F φ ψ s fr g a w h hf hd he
    obtain ⟨ord, lE, F, fr, g, h, hd, he, hlen, hhead⟩ := DInv.settle hC h hd he
    refine ⟨fun h0 => ?_, fun i hi => ?_⟩
    · cases F with
      | cons f F => have := h.first; rw [h0] at this; simp at this
      | nil =>
        rcases hhead with rfl | ⟨k, c, rest, rfl, hc⟩
        · exact fin h he
        · have := h.ready0 h0
          simp only [drawOk, Bool.and_eq_true, if_neg hc, beq_iff_eq] at hd
          rw [this] at hd
          simp at hd
    · by_cases hiF : i ∈ F
      · obtain ⟨o, ho, hst⟩ := h.comes hC hiF hi hns
        refine wpOp_step ho hst fun u w' ⟨g', h'⟩ => ih h' ?_ hd he
        rw [List.length_erase_of_mem hiF]
        have : 0 < F.length := List.length_pos_of_mem hiF
        omega
      · rcases hhead with rfl | ⟨k, c, rest, rfl, hc⟩
        · rcases h.ready hi with h1 | h1
          · exact absurd h1 hiF
          · simp only [drawOk, List.isEmpty_iff] at hd
            rw [hd] at h1
            simp at h1
        · have hik : i = k := by
            rcases h.ready hi with h1 | h1
            · exact absurd h1 hiF
            · simp only [drawOk, Bool.and_eq_true, if_neg hc, beq_iff_eq] at hd
              rw [hd.1] at h1
              simpa using h1
          subst hik
          obtain ⟨o, ho, hst⟩ := h.fixed hC hc hi hiF hns hd he
          refine wpOp_step ho hst fun u w' ⟨φ', ψ', s', fr', g', h', hd', he'⟩ => ih h' ?_ hd' he'
          simp at hlen
          omega

/-- **A region that draws its order.** -/
theorem evDraw_sound (hC : CtxOk P C) (hm : P.follows .mixedOrders = true) {id : Nat} {Q : Exit → Act → World → Prop} (hns : Region.noSelect ops = true) (hlen : ord.length ≤ ops.size) (hd : drawOk ops ord (Array.replicate ops.size false) = true)
    (h : InvA an φ0 s0 w0 φ ψ s fr a w) (he : evDraw std P C an ops ord fr s K = some r)
    (hK : ∀ φ' ψ' s' fr' a' w', InvA an φ0 s0 w0 φ' ψ' s' fr' a' w' → K fr' s' = some r → Q .normal a' w') : (Code.region id ops true).wp P Q a w := by
  refine wp_region_any hm (DInv.run hC hns hK ops.size (F := []) (φ := φ) (ψ := ψ) (s := s) (fr := fr) (g := a) ⟨?_, rfl, h.defers, fun _ _ => rfl, by simp, by simp, fun j hj => ?_, fun f hf => by simp at hf, by simp, trivial, fun f hf => by simp at hf, fun f hf => by simp at hf, fun f hf => by simp at hf⟩ (by simpa using hlen) hd he)
  · exact h.below ((Below.refl _ _).drew) fun _ => rfl
  · simp

end
end Go.Sim
