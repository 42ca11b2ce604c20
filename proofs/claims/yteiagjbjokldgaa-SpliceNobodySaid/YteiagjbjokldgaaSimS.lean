/-
  A region that draws its order: whatever order is drawn.
-/
import Derived.Test.YteiagjbjokldgaaSimR
set_option linter.unusedSimpArgs false
set_option linter.unusedVariables false
namespace Go.Sim
open Go.RowKit (Below)

section
variable {P : Program} {C : Ctx} {an : An} {φ0 φ : Phi} {ψ : Nat → Option Nat} {s0 s s' : St} {w0 w : World} {fr fr' : Fr} {a g : Act} {ops : Array Oper} {R : Type} {K : Fr → St → Option R} {r : R}

/-- The temporaries of readings that stand out. -/
def dsts (ops : Array Oper) (F : List Nat) : List Nat := F.filterMap fun f => (ops[f]?).bind (·.dst)

/-- Each waits for what has come up, or for one that stands ahead of it in the list. -/
def Chain (ops : Array Oper) (l : Array Bool) : List Nat → List Nat → Prop
  | _, [] => True
  | prev, f :: r => (∀ o, ops[f]? = some o → ∀ e ∈ o.after, Region.binds .any e = true → l.getD e.on false = true ∨ e.on ∈ prev) ∧ Chain ops l (f :: prev) r

theorem Chain.mono {l l' : Array Bool} (hl : ∀ j, l.getD j false = true → l'.getD j false = true) : ∀ {F prev prev' : List Nat}, (∀ j ∈ prev, j ∈ prev' ∨ l'.getD j false = true) → Chain ops l prev F → Chain ops l' prev' F
  | [], _, _, _, _ => trivial
  | f :: F, prev, prev', hp, h => by
    refine ⟨fun o ho e he hb => ?_, Chain.mono hl (fun j hj => ?_) h.2⟩
    · rcases h.1 o ho e he hb with h1 | h1
      · exact .inl (hl _ h1)
      · rcases hp _ h1 with h2 | h2
        · exact .inr h2
        · exact .inl h2
    · rcases List.mem_cons.1 hj with rfl | hj
      · exact .inl (by simp)
      · rcases hp j hj with h2 | h2
        · exact .inl (by simp [h2])
        · exact .inr h2

theorem Chain.append {l : Array Bool} {i : Nat} : ∀ {F prev : List Nat}, Chain ops l prev F → (∀ o, ops[i]? = some o → ∀ e ∈ o.after, Region.binds .any e = true → l.getD e.on false = true ∨ e.on ∈ F ∨ e.on ∈ prev) → Chain ops l prev (F ++ [i])
  | [], prev, _, h => ⟨fun o ho e he hb => by
      rcases h o ho e he hb with h1 | h1 | h1
      · exact .inl h1
      · simp at h1
      · exact .inr h1, trivial⟩
  | f :: F, prev, hc, h => ⟨hc.1, Chain.append hc.2 fun o ho e he hb => by
      rcases h o ho e he hb with h1 | h1 | h1
      · exact .inl h1
      · rcases List.mem_cons.1 h1 with rfl | h1
        · exact .inr (.inr (by simp))
        · exact .inr (.inl h1)
      · exact .inr (.inr (by simp [h1]))⟩

theorem Chain.erase {l l' : Array Bool} {i : Nat} (hl : ∀ j, l.getD j false = true → l'.getD j false = true) (hi : l'.getD i false = true) : ∀ {F prev prev' : List Nat}, (∀ j ∈ prev, j ∈ prev' ∨ l'.getD j false = true) → Chain ops l prev F → Chain ops l' prev' (F.erase i)
  | [], _, _, _, _ => trivial
  | f :: F, prev, prev', hp, h => by
    by_cases hf : f = i
    · subst hf
      rw [List.erase_cons_head]
      exact Chain.mono hl (fun j hj => by
        rcases List.mem_cons.1 hj with rfl | hj
        · exact .inr hi
        · exact hp j hj) h.2
    · rw [List.erase_cons_tail (by simpa using hf)]
      refine ⟨fun o ho e he hb => ?_, Chain.erase hl hi (fun j hj => ?_) h.2⟩
      · rcases h.1 o ho e he hb with h1 | h1
        · exact .inl (hl _ h1)
        · rcases hp _ h1 with h2 | h2
          · exact .inr h2
          · exact .inl h2
      · rcases List.mem_cons.1 hj with rfl | hj
        · exact .inl (by simp)
        · rcases hp j hj with h2 | h2
          · exact .inl (by simp [h2])
          · exact .inr h2

structure DInv (P : Program) (C : Ctx) (an : An) (ops : Array Oper) (φ0 : Phi) (s0 : St) (w0 : World) (ord : List (Nat × Cls)) (lE l : Array Bool) (F : List Nat) (φ : Phi) (ψ : Nat → Option Nat) (s : St) (fr : Fr) (g a : Act) (w : World) : Prop where
  inv : InvA an φ0 s0 w0 φ ψ s fr g w
  size : a.tmps.size = g.tmps.size
  defers : a.defers = []
  agree : ∀ t, t ∉ dsts ops F → a.tmps[t]? = g.tmps[t]?
  lsize : l.size = ops.size
  esize : lE.size = ops.size
  listed : ∀ j, j < ops.size → (l.getD j false = true ↔ (lE.getD j false = true ∧ j ∉ F))
  sub : ∀ f ∈ F, lE.getD f false = true
  nodup : F.Nodup
  chain : Chain ops l [] F
  pend : ∀ f ∈ F, ∃ o x, ops[f]? = some o ∧ clsOf P C an ops fr o ≤ 2 ∧ PS P C an ops fr s o x ∧ (∀ d, o.dst = some d → SlotIn fr d x) ∧ selfClear ops o = true ∧ okAfter ops o f (codeOf P C an ops fr o) ord = true
  apartO : ∀ f ∈ F, ∀ o, ops[f]? = some o → ∀ d, o.dst = some d → ∀ q ∈ ord, ∀ ok, ops[q.1]? = some ok → edgeOn ok f = true ∨ d ∉ ok.looksAt ops
  apartF : ∀ f ∈ F, ∀ o, ops[f]? = some o → ∀ d, o.dst = some d → ∀ k ∈ F, k ≠ f → ∀ ok, ops[k]? = some ok → edgeOn ok f = true ∨ d ∉ ok.looksAt ops

theorem getD_ff {l : Array Bool} {j : Nat} (hj : j < l.size) : l.getD j true = l.getD j false := by
  simp [Array.getD_eq_getD_getElem?, hj]

theorem lt_of_getD {l : Array Bool} {j : Nat} (h : l.getD j false = true) : j < l.size := by
  rcases Nat.lt_or_ge j l.size with h' | h'
  · exact h'
  · simp [Array.getD_eq_getD_getElem?, Array.getElem?_eq_none h'] at h

theorem lt_of_getD' {l : Array Bool} {j : Nat} (h : l.getD j true = false) : j < l.size := by
  rcases Nat.lt_or_ge j l.size with h' | h'
  · exact h'
  · simp [Array.getD_eq_getD_getElem?, Array.getElem?_eq_none h'] at h

theorem getD_set {l : Array Bool} {i j : Nat} (hi : i < l.size) : (l.setIfInBounds i true).getD j false = (if i = j then true else l.getD j false) := by
  simp only [Array.getD_eq_getD_getElem?, Array.getElem?_setIfInBounds]
  by_cases h : i = j
  · subst h; simp [hi]
  · simp [h]

theorem edge_spec {o : Oper} {i : Nat} : edgeOn o i = true ↔ ∃ e ∈ o.after, Region.binds .any e = true ∧ e.on = i := by
  unfold edgeOn
  rw [Array.any_eq_true']
  simp

theorem selfClear_spec {o : Oper} (h : selfClear ops o = true) : ∀ d, o.dst = some d → d ∉ o.looksAt ops := by
  intro d hd
  simpa [selfClear, hd] using h

theorem clear_spec {oi ok : Oper} (h : clear ops oi ok = true) : ∀ d, ok.dst = some d → d ∉ oi.looksAt ops ∧ oi.dst ≠ some d := by
  intro d hd
  simpa [clear, hd] using h

theorem Keeps.same {d : Option Nat} {ts : List Nat} (h : Keeps fr fr' d) (hd : ∀ x, d = some x → x ∉ ts) : SameOn ts fr fr' :=
  fun t ht => ⟨h.e t fun e => hd t e ht, h.g t fun e => hd t e ht⟩

theorem drawOk_unlisted : ∀ {ord : List (Nat × Cls)} {l : Array Bool}, drawOk ops ord l = true → ∀ q ∈ ord, l.getD q.1 true = false
  | [], _, _, q, hq => by simp at hq
  | (i, c) :: rest, l, h, q, hq => by
    simp only [drawOk, Bool.and_eq_true] at h
    obtain ⟨h1, h2⟩ := h
    have hi : l.getD i true = false := by
      split at h1
      · split at h1
        · simp only [Bool.and_eq_true, List.contains_iff_mem] at h1
          exact (mem_ready.1 h1.1.1.1).1
        · simp at h1
      · have : i ∈ Region.ready .any ops l := by rw [beq_iff_eq.1 h1]; simp
        exact (mem_ready.1 this).1
    rcases List.mem_cons.1 hq with rfl | hq
    · exact hi
    · have := drawOk_unlisted h2 q hq
      by_cases hqi : q.1 = i
      · rw [hqi]; exact hi
      · rwa [getD_set_ne true (Ne.symm hqi)] at this

variable {ord : List (Nat × Cls)} {lE l : Array Bool} {F : List Nat}

theorem DInv.edge_listed (h : DInv P C an ops φ0 s0 w0 ord lE l F φ ψ s fr g a w) {k f : Nat} {ok : Oper} (hk : k ∈ Region.ready .any ops l) (ho : ops[k]? = some ok) (hf : f ∈ F) : edgeOn ok f ≠ true := by
  intro he
  obtain ⟨e, h1, h2, rfl⟩ := edge_spec.1 he
  obtain ⟨_, o, ho', hall⟩ := mem_ready.1 hk
  rw [ho] at ho'
  simp only [Option.some.injEq] at ho'
  subst ho'
  have h3 := hall e h1 h2
  have hlt := lt_of_getD h3
  rw [h.lsize] at hlt
  exact ((h.listed _ hlt).1 h3).2 hf

theorem DInv.ready (h : DInv P C an ops φ0 s0 w0 ord lE l F φ ψ s fr g a w) {k : Nat} (hk : k ∈ Region.ready .any ops l) : k ∈ F ∨ k ∈ Region.ready .any ops lE := by
  obtain ⟨h1, o, ho, hall⟩ := mem_ready.1 hk
  have hlt : k < ops.size := (Array.getElem?_eq_some_iff.1 ho).1
  by_cases hF : k ∈ F
  · exact .inl hF
  · refine .inr (mem_ready.2 ⟨?_, o, ho, fun e he hb => ?_⟩)
    · rw [getD_ff (by rw [h.lsize]; exact hlt)] at h1
      rw [getD_ff (by rw [h.esize]; exact hlt)]
      cases hl : lE.getD k false with
      | false => rfl
      | true => have := (h.listed k hlt).2 ⟨hl, hF⟩; rw [h1] at this; cases this
    · have h3 := hall e he hb
      have hlt := lt_of_getD h3
      rw [h.lsize] at hlt
      exact ((h.listed _ hlt).1 h3).1

theorem DInv.ready0 (h : DInv P C an ops φ0 s0 w0 ord lE l [] φ ψ s fr g a w) : Region.ready .any ops l = [] → Region.ready .any ops lE = [] := by
  intro h0
  apply List.eq_nil_iff_forall_not_mem.2
  intro k hk
  obtain ⟨h1, o, ho, hall⟩ := mem_ready.1 hk
  have hlt : k < ops.size := (Array.getElem?_eq_some_iff.1 ho).1
  have : k ∈ Region.ready .any ops l := by
    refine mem_ready.2 ⟨?_, o, ho, fun e he hb => ?_⟩
    · rw [getD_ff (by rw [h.esize]; exact hlt)] at h1
      rw [getD_ff (by rw [h.lsize]; exact hlt)]
      cases hl : l.getD k false with
      | false => rfl
      | true => have := ((h.listed k hlt).1 hl).1; rw [h1] at this; cases this
    · have h3 := hall e he hb
      have hlt := lt_of_getD h3
      rw [h.esize] at hlt
      exact (h.listed _ hlt).2 ⟨h3, by simp⟩
  rw [h0] at this
  simp at this

theorem DInv.first {f : Nat} (h : DInv P C an ops φ0 s0 w0 ord lE l (f :: F) φ ψ s fr g a w) : f ∈ Region.ready .any ops l := by
  obtain ⟨o, x, ho, _⟩ := h.pend f (by simp)
  have hlt : f < ops.size := (Array.getElem?_eq_some_iff.1 ho).1
  refine mem_ready.2 ⟨?_, o, ho, fun e he hb => ?_⟩
  · rw [getD_ff (by rw [h.lsize]; exact hlt)]
    cases hl : l.getD f false with
    | false => rfl
    | true => exact absurd (List.mem_cons_self) ((h.listed f hlt).1 hl).2
  · rcases h.chain.1 o ho e he hb with h1 | h1
    · exact h1
    · simp at h1

theorem mem_dsts {F : List Nat} {t : Nat} : t ∈ dsts ops F ↔ ∃ f ∈ F, ∃ o, ops[f]? = some o ∧ o.dst = some t := by
  simp only [dsts, List.mem_filterMap, Option.bind_eq_some_iff]

/-- A reading at the head of the order is taken up. -/
theorem DInv.absorb (hC : CtxOk P C) {i : Nat} {c : Cls} {rest : List (Nat × Cls)} (h : DInv P C an ops φ0 s0 w0 ((i, c) :: rest) lE l F φ ψ s fr g a w) (hc : c % 8 ≤ 2)
    (hd : drawOk ops ((i, c) :: rest) lE = true) (he : evDraw std P C an ops ((i, c) :: rest) fr s K = some r) :
    ∃ fr' g', DInv P C an ops φ0 s0 w0 rest (lE.setIfInBounds i true) l (F ++ [i]) φ ψ s fr' g' a w ∧ drawOk ops rest (lE.setIfInBounds i true) = true ∧ evDraw std P C an ops rest fr' s K = some r := by
  have hun := drawOk_unlisted hd
  simp only [drawOk, Bool.and_eq_true] at hd
  obtain ⟨hd1, hd2⟩ := hd
  rw [if_pos hc] at hd1
  simp only [evDraw] at he
  cases ho : ops[i]? with
  | none => simp [ho] at he
  | some o =>
    simp only [ho, Bool.and_eq_true, List.contains_iff_mem] at hd1 he
    obtain ⟨⟨⟨hr, hfree⟩, hself⟩, hok⟩ := hd1
    have hlt : i < ops.size := (Array.getElem?_eq_some_iff.1 ho).1
    split at he
    · rename_i hcl
      subst hcl
      have hc' := hc
      rw [code_mod] at hc'
      obtain ⟨x, hpv, hput⟩ := evOp_float hc' he
      obtain ⟨u, hy, hx⟩ := PS_sound hC h.inv hc' hpv
      obtain ⟨fr', hk, ⟨hkeep, hloc, hslot⟩, hinv⟩ := h.inv.putS hx hput
      have hiE : lE.getD i false = false := by
        have := (mem_ready.1 hr).1
        rwa [getD_ff (by rw [h.esize]; exact hlt)] at this
      have hiF : i ∉ F := fun hm => by have := h.sub i hm; rw [hiE] at this; cases this
      have hself' := selfClear_spec hself
      refine ⟨fr', g.put o.dst u, ⟨hinv, by simpa using h.size, h.defers, fun t ht => ?_, h.lsize, by simpa using h.esize, fun j hj => ?_, fun f hf => ?_, ?_, ?_, fun f hf => ?_, fun f hf of hof d hdf q hq ok hoq => ?_, fun f hf of hof d hdf k hk2 hkf ok hok2 => ?_⟩, hd2, hk⟩
      · have h1 : t ∉ dsts ops F := fun hm => ht (by
          obtain ⟨f, hf, o', ho', hd'⟩ := mem_dsts.1 hm
          exact mem_dsts.2 ⟨f, by simp [hf], o', ho', hd'⟩)
        have h2 : o.dst ≠ some t := fun e => ht (mem_dsts.2 ⟨i, by simp, o, ho, e⟩)
        rw [h.agree t h1]
        cases hod : o.dst with
        | none => rfl
        | some d => rw [get_put_other (fun e => h2 (by rw [hod, e]))]
      · rw [getD_set (by rw [h.esize]; exact hlt), h.listed j hj]
        by_cases hij : i = j
        · subst hij; simp [hiE]
        · simp only [if_neg hij, List.mem_append, List.mem_singleton]
          constructor
          · rintro ⟨h1, h2⟩; exact ⟨h1, fun hm => hm.elim h2 fun e => hij e.symm⟩
          · rintro ⟨h1, h2⟩; exact ⟨h1, fun hm => h2 (.inl hm)⟩
      · rw [getD_set (by rw [h.esize]; exact hlt)]
        rcases List.mem_append.1 hf with hf | hf
        · rw [h.sub f hf]; simp
        · simp at hf; subst hf; simp
      · rw [List.nodup_append]
        exact ⟨h.nodup, by simp, fun a ha b hb => by simp at hb; subst hb; exact fun e => hiF (e ▸ ha)⟩
      · refine h.chain.append fun o' ho' e he' hb => ?_
        rw [ho] at ho'
        simp only [Option.some.injEq] at ho'
        subst ho'
        obtain ⟨_, o', ho', hall⟩ := mem_ready.1 hr
        rw [ho] at ho'
        simp only [Option.some.injEq] at ho'
        subst ho'
        have h3 := hall e he' hb
        have hl3 := lt_of_getD h3
        rw [h.esize] at hl3
        by_cases hm : e.on ∈ F
        · exact .inr (.inl hm)
        · exact .inl ((h.listed _ hl3).2 ⟨h3, hm⟩)
      · rcases List.mem_append.1 hf with hf | hf
        · obtain ⟨of, xf, h1, h2, h3, h4, h5, h6⟩ := h.pend f hf
          simp only [okAfter, ho] at h6
          rw [if_neg (by simp only [Bool.and_eq_true, decide_eq_true_eq, not_and]; intro _; exact Nat.not_le.2 (Nat.lt_succ_of_le hc))] at h6
          simp only [Bool.and_eq_true] at h6
          obtain ⟨⟨h6, h7⟩, h8⟩ := h6
          have hcl := clear_spec h6
          have hs : SameOn (of.looksAt ops) fr fr' := hkeep.same fun y hy => (hcl y hy).1
          have hcs := clsOf_same (P := P) (C := C) (an := an) hs
          have hcd := codeOf_same (P := P) (C := C) (an := an) hs
          refine ⟨of, xf, h1, by rw [hcs]; exact h2, PS_keep h2 hs (fun _ => LocSame.at (.of_eq hloc) _) (fun _ => .refl s) h3, fun d hd => ?_, h5, by rw [hcd]; exact h8⟩
          have hne : o.dst ≠ some d := fun e => (hcl d e).2 hd
          exact (h4 d hd).keep hkeep hne
        · simp at hf
          subst hf
          have hs : SameOn (o.looksAt ops) fr fr' := hkeep.same fun y hy => hself' y hy
          have hcs := clsOf_same (P := P) (C := C) (an := an) hs
          have hcd := codeOf_same (P := P) (C := C) (an := an) hs
          exact ⟨o, x, ho, by rw [hcs]; exact hc', PS_keep hc' hs (fun _ => LocSame.at (.of_eq hloc) _) (fun _ => .refl s) hpv, hslot, hself, by rw [hcd]; exact hok⟩
      · rcases List.mem_append.1 hf with hf | hf
        · exact h.apartO f hf of hof d hdf q (by simp [hq]) ok hoq
        · simp at hf
          subst hf
          rw [ho] at hof
          simp only [Option.some.injEq] at hof
          subst hof
          have hqu := drawOk_unlisted hd2 q hq
          have hqi : q.1 ≠ f := fun e => by
            rw [e, getD_ff (by simpa using (by rw [h.esize]; exact hlt)), getD_set (by rw [h.esize]; exact hlt)] at hqu
            simp at hqu
          rw [getD_set_ne true (Ne.symm hqi)] at hqu
          by_cases hedge : edgeOn ok f = true
          · exact .inl hedge
          · have hap := Region.free_spec ho hfree q.1 ok hoq hqi hqu fun e he' hb heq => hedge (edge_spec.2 ⟨e, he', hb, heq⟩)
            exact .inr ((Oper.apart_spec hap).1 d hdf)
      · rcases List.mem_append.1 hf with hf2 | hf2
        · rcases List.mem_append.1 hk2 with hk3 | hk3
          · exact h.apartF f hf2 of hof d hdf k hk3 hkf ok hok2
          · simp at hk3
            subst hk3
            exact h.apartO f hf2 of hof d hdf (k, _) (List.mem_cons_self) ok hok2
        · simp at hf2
          subst hf2
          rw [ho] at hof
          simp only [Option.some.injEq] at hof
          subst hof
          rcases List.mem_append.1 hk2 with hk3 | hk3
          · obtain ⟨ok', xk, h1, h2, h3, h4, h5, h6⟩ := h.pend k hk3
            rw [hok2] at h1
            simp only [Option.some.injEq] at h1
            subst h1
            simp only [okAfter, ho] at h6
            rw [if_neg (by simp only [Bool.and_eq_true, decide_eq_true_eq, not_and]; intro _; exact Nat.not_le.2 (Nat.lt_succ_of_le hc))] at h6
            simp only [Bool.and_eq_true] at h6
            exact .inr (clear_spec h6.1.1 d hdf).1
          · simp at hk3; exact absurd hk3 hkf
    · simp at he

end
end Go.Sim
