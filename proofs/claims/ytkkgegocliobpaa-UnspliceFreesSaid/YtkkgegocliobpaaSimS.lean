/-
  A region that draws its order: whatever order is drawn.
-/
import Derived.Test.YtkkgegocliobpaaSimRa
set_option linter.unusedSimpArgs false
set_option linter.unusedVariables false
namespace Go.Sim
open Go.RowKit (Below)

section
variable {P : Program} {C : Ctx} {an : An} {φ0 φ : Phi} {ψ : Nat → Option Nat} {s0 s s' : St} {w0 w : World} {fr fr' : Fr} {a g : Act} {ops : Array Oper} {R : Type} {K : Fr → St → Option R} {r : R}

/-- The temporaries of readings that stand out. -/
def dsts (ops : Array Oper) (F : List Nat) : List Nat := F.filterMap fun f => (ops[f]?).bind (·.dst)

/-- Each waits for what has come up, or for one that stands ahead of it in the list. -/
def Chain (ops : Array Oper) (l : Array Bool) : List Nat → List Nat → Prop
  | _, [] => True
  | prev, f :: r => (∀ o, ops[f]? = some o → ∀ e ∈ o.after, Region.binds .any e = true → l.getD e.on false = true ∨ e.on ∈ prev) ∧ Chain ops l (f :: prev) r

theorem Chain.mono {l l' : Array Bool} (hl : ∀ j, l.getD j false = true → l'.getD j false = true) : ∀ {F prev prev' : List Nat}, (∀ j ∈ prev, j ∈ prev' ∨ l'.getD j false = true) → Chain ops l prev F → Chain ops l' prev' F
  | [], _, _, _, _ => trivial
  | f :: F, prev, prev', hp, h => by
    refine ⟨fun o ho e he hb => ?_, Chain.mono hl (fun j hj => ?_) h.2⟩
    · rcases h.1 o ho e he hb with h1 | h1
      · exact .inl (hl _ h1)
      · rcases hp _ h1 with h2 | h2
        · exact .inr h2
        · exact .inl h2
    · rcases List.mem_cons.1 hj with rfl | hj
      · exact .inl (by simp)
      · rcases hp j hj with h2 | h2
        · exact .inl (by simp [h2])
        · exact .inr h2

theorem Chain.append {l : Array Bool} {i : Nat} : ∀ {F prev : List Nat}, Chain ops l prev F → (∀ o, ops[i]? = some o → ∀ e ∈ o.after, Region.binds .any e = true → l.getD e.on false = true ∨ e.on ∈ F ∨ e.on ∈ prev) → Chain ops l prev (F ++ [i])
  | [], prev, _, h => ⟨fun o ho e he hb => by
      rcases h o ho e he hb with h1 | h1 | h1
      · exact .inl h1
      · simp at h1
      · exact .inr h1, trivial⟩
  | f :: F, prev, hc, h => ⟨hc.1, Chain.append hc.2 fun o ho e he hb => by
      rcases h o ho e he hb with h1 | h1 | h1
      · exact .inl h1
      · rcases List.mem_cons.1 h1 with rfl | h1
        · exact .inr (.inr (by simp))
        · exact .inr (.inl h1)
      · exact .inr (.inr (by simp [h1]))⟩

theorem Chain.erase {l l' : Array Bool} {i : Nat} (hl : ∀ j, l.getD j false = true → l'.getD j false = true) (hi : l'.getD i false = true) : ∀ {F prev prev' : List Nat}, (∀ j ∈ prev, j ∈ prev' ∨ l'.getD j false = true) → Chain ops l prev F → Chain ops l' prev' (F.erase i)
  | [], _, _, _, _ => trivial
  | f :: F, prev, prev', hp, h => by
    by_cases hf : f = i
    · subst hf
      rw [List.erase_cons_head]
      exact Chain.mono hl (fun j hj => by
        rcases List.mem_cons.1 hj with rfl | hj
        · exact .inr hi
        · exact hp j hj) h.2
    · rw [List.erase_cons_tail (by simpa using hf)]
      refine ⟨fun o ho e he hb => ?_, Chain.erase hl hi (fun j hj => ?_) h.2⟩
      · rcases h.1 o ho e he hb with h1 | h1
        · exact .inl (hl _ h1)
        · rcases hp _ h1 with h2 | h2
          · exact .inr h2
          · exact .inl h2
      · rcases List.mem_cons.1 hj with rfl | hj
        · exact .inl (by simp)
        · rcases hp j hj with h2 | h2
          · exact .inl (by simp [h2])
          · exact .inr h2

structure DInv (P : Program) (C : Ctx) (an : An) (ops : Array Oper) (φ0 : Phi) (s0 : St) (w0 : World) (ord : List Ord1) (lE l : Array Bool) (F : List Nat) (E : List (Nat × Nat)) (φ : Phi) (ψ : Nat → Option Nat) (s : St) (fr : Fr) (g a : Act) (w : World) : Prop where
  inv : InvA an φ0 s0 w0 φ ψ s fr g w
  size : a.tmps.size = g.tmps.size
  defers : a.defers = []
  agree : ∀ t, t ∉ dsts ops F → t ∉ dsts ops (E.map (·.1)) → a.tmps[t]? = g.tmps[t]?
  lsize : l.size = ops.size
  esize : lE.size = ops.size
  listed : ∀ j, j < ops.size → (l.getD j false = true ↔ (lE.getD j false = true ∧ j ∉ F) ∨ j ∈ E.map (·.1))
  sub : ∀ f ∈ F, lE.getD f false = true
  nodup : F.Nodup
  chain : Chain ops l [] F
  pend : ∀ f ∈ F, ∃ o x, ops[f]? = some o ∧ clsOf P C an ops fr o ≤ 2 ∧ PS P C an ops fr s o x ∧ (∀ d, o.dst = some d → SlotIn fr d x) ∧ selfClear ops o = true ∧ okAfter ops o f (codeOf P C an ops fr o) ord = true
  apartO : ∀ f ∈ F, ∀ o, ops[f]? = some o → ∀ d, o.dst = some d → ∀ q ∈ ord, ∀ ok, ops[q.1]? = some ok → edgeOn ok f = true ∨ d ∉ ok.looksAt ops
  apartF : ∀ f ∈ F, ∀ o, ops[f]? = some o → ∀ d, o.dst = some d → ∀ k ∈ F, k ≠ f → ∀ ok, ops[k]? = some ok → edgeOn ok f = true ∨ d ∉ ok.looksAt ops
  predsF : ∀ f ∈ F, ∀ o, ops[f]? = some o → ∀ e ∈ o.after, Region.binds .any e = true → lE.getD e.on false = true
  ready : ∀ e ∈ E, e.1 ∈ Region.ready .any ops lE
  ndE : (E.map (·.1)).Nodup
  one : ∀ e ∈ E, ∀ e' ∈ E, e.2 = e'.2 → e = e'
  early : ∀ e ∈ E, ∃ o d kb va mk blk, ops[e.1]? = some o ∧ o.dst = some d ∧ soloOk ops e.1 = true ∧ SAft P C an φ fr g o kb va mk blk ∧ (d < a.tmps.size → a.tmps[d]? = some (mk e.2)) ∧ w.heap[e.2]? = some blk ∧ Away φ ψ s fr e.2 ∧ w0.heap.size ≤ e.2
  predsE : ∀ e ∈ E, ∀ o, ops[e.1]? = some o → ∀ p ∈ o.after, Region.binds .any p = true → l.getD p.on false = true

theorem getD_ff {l : Array Bool} {j : Nat} (hj : j < l.size) : l.getD j true = l.getD j false := by
  simp [Array.getD_eq_getD_getElem?, hj]

theorem lt_of_getD {l : Array Bool} {j : Nat} (h : l.getD j false = true) : j < l.size := by
  rcases Nat.lt_or_ge j l.size with h' | h'
  · exact h'
  · simp [Array.getD_eq_getD_getElem?, Array.getElem?_eq_none h'] at h

theorem lt_of_getD' {l : Array Bool} {j : Nat} (h : l.getD j true = false) : j < l.size := by
  rcases Nat.lt_or_ge j l.size with h' | h'
  · exact h'
  · simp [Array.getD_eq_getD_getElem?, Array.getElem?_eq_none h'] at h

theorem getD_set {l : Array Bool} {i j : Nat} (hi : i < l.size) : (l.setIfInBounds i true).getD j false = (if i = j then true else l.getD j false) := by
  simp only [Array.getD_eq_getD_getElem?, Array.getElem?_setIfInBounds]
  by_cases h : i = j
  · subst h; simp [hi]
  · simp [h]

theorem edge_spec {o : Oper} {i : Nat} : edgeOn o i = true ↔ ∃ e ∈ o.after, Region.binds .any e = true ∧ e.on = i := by
  unfold edgeOn
  rw [Array.any_eq_true']
  simp

theorem selfClear_spec {o : Oper} (h : selfClear ops o = true) : ∀ d, o.dst = some d → d ∉ o.looksAt ops := by
  intro d hd
  simpa [selfClear, hd] using h

theorem clear_spec {oi ok : Oper} (h : clear ops oi ok = true) : ∀ d, ok.dst = some d → d ∉ oi.looksAt ops ∧ oi.dst ≠ some d := by
  intro d hd
  simpa [clear, hd] using h

theorem Keeps.same {d : Option Nat} {ts : List Nat} (h : Keeps fr fr' d) (hd : ∀ x, d = some x → x ∉ ts) : SameOn ts fr fr' :=
  fun t ht => ⟨h.e t fun e => hd t e ht, h.g t fun e => hd t e ht⟩

theorem drawOk_unlisted : ∀ {ord : List Ord1} {l : Array Bool}, drawOk ops ord l = true → ∀ q ∈ ord, l.getD q.1 true = false
  | [], _, _, q, hq => by simp at hq
  | (i, c, rs, ks) :: rest, l, h, q, hq => by
    simp only [drawOk, Bool.and_eq_true] at h
    obtain ⟨h1, h2⟩ := h
    have hi : l.getD i true = false := by
      split at h1
      · split at h1
        · simp only [Bool.and_eq_true, List.contains_iff_mem] at h1
          exact (mem_ready.1 h1.1.1.1.2).1
        · simp at h1
      · simp only [Bool.and_eq_true, List.contains_iff_mem] at h1
        exact (mem_ready.1 h1.1.1.1).1
    rcases List.mem_cons.1 hq with rfl | hq
    · exact hi
    · have := drawOk_unlisted h2 q hq
      by_cases hqi : q.1 = i
      · rw [hqi]; exact hi
      · rwa [getD_set_ne true (Ne.symm hqi)] at this

variable {ord : List Ord1} {lE l : Array Bool} {F : List Nat} {E : List (Nat × Nat)}

theorem solo_spec {k : Nat} {ok : Oper} (hk : ops[k]? = some ok) (h : soloOk ops k = true) : saKind ok = true ∧ selfClear ops ok = true ∧ ∀ m om, m ≠ k → ops[m]? = some om → edgeOn om k ≠ true → edgeOn ok m ≠ true → ok.apart ops om = true := by
  simp only [soloOk, hk, Bool.and_eq_true, List.all_eq_true, List.mem_range] at h
  refine ⟨h.1.1, h.1.2, fun m om hne hm h1 h2 => ?_⟩
  have h3 := h.2 m (Array.getElem?_eq_some_iff.1 hm).1
  simp only [hm, Bool.or_eq_true, beq_iff_eq, hne, false_or] at h3
  rcases h3 with (h3 | h3) | h3
  · exact absurd h3 h1
  · exact absurd h3 h2
  · exact h3

theorem sa_cls {fr : Fr} {o : Oper} (h : saKind o = true) : ¬ clsOf P C an ops fr o ≤ 2 := by
  obtain ⟨dst, op, ty, pos, after, guard⟩ := o
  unfold saKind at h
  split at h
  · rename_i h1 h2 h3
    simp only at h1 h2 h3
    subst h1; subst h2; subst h3
    simp only [clsOf]
    split <;> simp
  · rename_i h1 h2 h3
    simp only at h1 h2 h3
    subst h1; subst h2; subst h3
    simp only [clsOf]
    split <;> simp
  · rename_i h1 h2 h3
    simp only at h1 h2 h3
    subst h3
    simp [clsOf]
  · rename_i h1 h2 h3
    simp only at h1 h2 h3
    subst h3
    simp [clsOf]
  · simp at h

theorem sa_opR {o : Oper} (hk : saKind o = true) (hs : SameOn (o.looksAt ops) fr fr') (s : St) : opR std P C an fr' s none o = opR std P C an fr s none o := by
  obtain ⟨dst, op, ty, pos, after, guard⟩ := o
  unfold saKind at hk
  split at hk
  · rename_i h1 h2 h3
    simp only at h1 h2 h3
    subst h1; subst h2; subst h3
    rfl
  · rename_i t x h1 h2 h3
    simp only at h1 h2 h3
    subst h1; subst h2; subst h3
    simp only [opR, (hs.op (x := x) (by simp [Op.operands])).v]
  · rename_i t len ps h1 h2 h3
    simp only at h1 h2 h3
    subst h1; subst h2; subst h3
    simp only [opR, same_ps (fr := fr) (fr' := fr') (l := ps.toList) fun q hq => hs.op (by simp only [Op.operands]; simp at hq ⊢; exact ⟨_, hq⟩)]
  · rename_i h1 h2 h3
    simp only at h1 h2 h3
    subst h1; subst h2; subst h3
    rfl
  · simp at hk

theorem sa_guard {o : Oper} (hk : saKind o = true) : o.guard = none ∧ ∃ d, o.dst = some d := by
  obtain ⟨dst, op, ty, pos, after, guard⟩ := o
  unfold saKind at hk
  split at hk <;> first | (simp at hk; done) | (rename_i h1 h2 h3; simp only at h1 h2 h3; subst h1; subst h2; exact ⟨rfl, _, rfl⟩)

/-- It makes the same from another frame that holds the same. -/
theorem SAft.keep {g' : Act} {o : Oper} {kb : Blk} {va mk : Nat → Value} {blk : Obj} (h : SAft P C an φ fr g o kb va mk blk) (hk : saKind o = true) (hs : SameOn (o.looksAt ops) fr fr') (hns : ∀ cs b, o.op ≠ .select cs b)
    (hg : ∀ t ∈ o.looksAt ops, g'.tmps[t]? = g.tmps[t]?) : SAft P C an φ fr' g' o kb va mk blk :=
  ⟨fun s => by rw [sa_opR hk hs s]; exact h.abs s, fun w => by rw [(exec_same hns hg).1]; exact h.run w, h.rel, h.below, h.froz, h.nb⟩

theorem DInv.inl (h : DInv P C an ops φ0 s0 w0 ord lE l F E φ ψ s fr g a w) {e : Nat × Nat} (he : e ∈ E) : lE.getD e.1 false = false ∧ l.getD e.1 false = true ∧ e.1 < ops.size ∧ e.1 ∉ F := by
  obtain ⟨h1, o, ho, _⟩ := mem_ready.1 (h.ready e he)
  have hlt : e.1 < ops.size := (Array.getElem?_eq_some_iff.1 ho).1
  rw [getD_ff (by rw [h.esize]; exact hlt)] at h1
  exact ⟨h1, (h.listed _ hlt).2 (.inr (List.mem_map.2 ⟨e, he, rfl⟩)), hlt, fun hf => by have := h.sub _ hf; rw [h1] at this; cases this⟩

theorem edge_pred {o : Oper} {i : Nat} {l : Array Bool} (hall : ∀ e ∈ o.after, Region.binds .any e = true → l.getD e.on false = true) (he : edgeOn o i = true) : l.getD i false = true := by
  obtain ⟨e, h1, h2, rfl⟩ := edge_spec.1 he
  exact hall e h1 h2

/-- New memory made ahead stands apart from what comes and from what has not come up. -/
theorem DInv.solo (h : DInv P C an ops φ0 s0 w0 ord lE l F E φ ψ s fr g a w) {e : Nat × Nat} (he : e ∈ E) {oe : Oper} (hoe : ops[e.1]? = some oe) {m : Nat} {om : Oper} (hm : ops[m]? = some om) (hne : m ≠ e.1)
    (hc : m ∈ F ∨ m ∈ Region.ready .any ops lE) : oe.apart ops om = true := by
  obtain ⟨o, d, kb, va, mk, blk, ho, hd, hso, _⟩ := h.early e he
  rw [hoe] at ho
  simp only [Option.some.injEq] at ho
  subst ho
  obtain ⟨hl1, hl2, hlt, hnF⟩ := h.inl he
  refine (solo_spec hoe hso).2.2 m om hne hm (fun hx => ?_) (fun hx => ?_)
  · rcases hc with hc | hc
    · have := edge_pred (h.predsF m hc om hm) hx
      rw [hl1] at this; cases this
    · obtain ⟨_, o', ho', hall⟩ := mem_ready.1 hc
      rw [hm] at ho'
      simp only [Option.some.injEq] at ho'
      subst ho'
      have := edge_pred hall hx
      rw [hl1] at this; cases this
  · rcases hc with hc | hc
    · have := edge_pred (h.predsE e he oe hoe) hx
      have hml : m < ops.size := (Array.getElem?_eq_some_iff.1 hm).1
      rcases (h.listed m hml).1 this with h1 | h1
      · exact h1.2 hc
      · obtain ⟨e', he', rfl⟩ := List.mem_map.1 h1
        exact (h.inl he').2.2.2 hc
    · obtain ⟨_, o', ho', hall⟩ := mem_ready.1 (h.ready e he)
      rw [hoe] at ho'
      simp only [Option.some.injEq] at ho'
      subst ho'
      have := edge_pred hall hx
      obtain ⟨h3, _⟩ := mem_ready.1 hc
      rw [getD_ff (by rw [h.esize]; exact (Array.getElem?_eq_some_iff.1 hm).1), this] at h3
      cases h3

theorem DInv.edge_listed (h : DInv P C an ops φ0 s0 w0 ord lE l F E φ ψ s fr g a w) {k f : Nat} {ok : Oper} (hk : k ∈ Region.ready .any ops l) (ho : ops[k]? = some ok) (hf : f ∈ F) : edgeOn ok f ≠ true := by
  intro he
  obtain ⟨e, h1, h2, rfl⟩ := edge_spec.1 he
  obtain ⟨_, o, ho', hall⟩ := mem_ready.1 hk
  rw [ho] at ho'
  simp only [Option.some.injEq] at ho'
  subst ho'
  have h3 := hall e h1 h2
  have hlt := lt_of_getD h3
  rw [h.lsize] at hlt
  rcases (h.listed _ hlt).1 h3 with h4 | h4
  · exact h4.2 hf
  · obtain ⟨e', he', h5⟩ := List.mem_map.1 h4
    exact (h.inl he').2.2.2 (by rw [h5]; exact hf)

theorem DInv.ready' (h : DInv P C an ops φ0 s0 w0 ord lE l F E φ ψ s fr g a w) {k : Nat} (hk : k ∈ Region.ready .any ops l) : k ∈ F ∨ (lE.getD k true = false ∧ k ∉ E.map (·.1) ∧ ∃ o, ops[k]? = some o ∧ ∀ e ∈ o.after, Region.binds .any e = true → lE.getD e.on false = true ∨ e.on ∈ E.map (·.1)) := by
  obtain ⟨h1, o, ho, hall⟩ := mem_ready.1 hk
  have hlt : k < ops.size := (Array.getElem?_eq_some_iff.1 ho).1
  by_cases hF : k ∈ F
  · exact .inl hF
  · rw [getD_ff (by rw [h.lsize]; exact hlt)] at h1
    refine .inr ⟨?_, fun hE => ?_, o, ho, fun e he hb => ?_⟩
    · rw [getD_ff (by rw [h.esize]; exact hlt)]
      cases hl : lE.getD k false with
      | false => rfl
      | true => have := (h.listed k hlt).2 (.inl ⟨hl, hF⟩); rw [h1] at this; cases this
    · have := (h.listed k hlt).2 (.inr hE); rw [h1] at this; cases this
    · have h3 := hall e he hb
      have hlt := lt_of_getD h3
      rw [h.lsize] at hlt
      rcases (h.listed _ hlt).1 h3 with h4 | h4
      · exact .inl h4.1
      · exact .inr h4

theorem DInv.first {f : Nat} (h : DInv P C an ops φ0 s0 w0 ord lE l (f :: F) E φ ψ s fr g a w) : f ∈ Region.ready .any ops l := by
  obtain ⟨o, x, ho, _⟩ := h.pend f (by simp)
  have hlt : f < ops.size := (Array.getElem?_eq_some_iff.1 ho).1
  refine mem_ready.2 ⟨?_, o, ho, fun e he hb => ?_⟩
  · rw [getD_ff (by rw [h.lsize]; exact hlt)]
    cases hl : l.getD f false with
    | false => rfl
    | true =>
      rcases (h.listed f hlt).1 hl with h4 | h4
      · exact absurd (List.mem_cons_self) h4.2
      · obtain ⟨e', he', rfl⟩ := List.mem_map.1 h4
        exact absurd (List.mem_cons_self) (h.inl he').2.2.2
  · rcases h.chain.1 o ho e he hb with h1 | h1
    · exact h1
    · simp at h1

theorem mem_dsts {F : List Nat} {t : Nat} : t ∈ dsts ops F ↔ ∃ f ∈ F, ∃ o, ops[f]? = some o ∧ o.dst = some t := by
  simp only [dsts, List.mem_filterMap, Option.bind_eq_some_iff]

theorem ready_set {k i : Nat} (hk : k ∈ Region.ready .any ops lE) (hne : k ≠ i) (hi : i < lE.size) : k ∈ Region.ready .any ops (lE.setIfInBounds i true) := by
  obtain ⟨h1, o, ho, hall⟩ := mem_ready.1 hk
  refine mem_ready.2 ⟨by rw [getD_set_ne true (Ne.symm hne)]; exact h1, o, ho, fun e he hb => ?_⟩
  rw [getD_set hi, hall e he hb]
  simp

/-- What is made ahead stays so while others come. -/
theorem DInv.early_keep {φ' : Phi} {ψ' : Nat → Option Nat} {s' : St} {fr' : Fr} {g' a' : Act} {w' : World} (h : DInv P C an ops φ0 s0 w0 ord lE l F E φ ψ s fr g a w) (hns : Region.noSelect ops = true) {i : Nat} {o : Oper} (ho : ops[i]? = some o)
    (hc : i ∈ F ∨ i ∈ Region.ready .any ops lE) (hle : φ.le φ') (hk : Keeps fr fr' o.dst) (hg : ∀ t, o.dst ≠ some t → g'.tmps[t]? = g.tmps[t]?) (ha : ∀ t, o.dst ≠ some t → a'.tmps[t]? = a.tmps[t]?) (hsz : a'.tmps.size = a.tmps.size)
    {e : Nat × Nat} (hw : e.2 < w.heap.size → Away φ ψ s fr e.2 → Away φ' ψ' s' fr' e.2 ∧ w'.heap[e.2]? = w.heap[e.2]?) (he : e ∈ E) (hne : i ≠ e.1) :
    ∃ o d kb va mk blk, ops[e.1]? = some o ∧ o.dst = some d ∧ soloOk ops e.1 = true ∧ SAft P C an φ' fr' g' o kb va mk blk ∧ (d < a'.tmps.size → a'.tmps[d]? = some (mk e.2)) ∧ w'.heap[e.2]? = some blk ∧ Away φ' ψ' s' fr' e.2 ∧ w0.heap.size ≤ e.2 := by
  obtain ⟨oe, d, kb, va, mk, blk, h1, h2, h3, h4, h5, h6, h7, h8⟩ := h.early e he
  have hap := Oper.apart_spec (h.solo he h1 ho hne hc)
  have hlt : e.2 < w.heap.size := (Array.getElem?_eq_some_iff.1 h6).1
  obtain ⟨h9, h10⟩ := hw hlt h7
  have hsa := (solo_spec h1 h3).1
  refine ⟨oe, d, kb, va, mk, blk, h1, h2, h3, (h4.mono hle).keep (ops := ops) hsa (hk.same fun x hx => hap.2.2 x hx) (fun cs b => Region.noSelect_spec hns e.1 oe cs b h1) (fun t ht => hg t fun hd => hap.2.2 t hd ht), fun hd => ?_, by rw [h10]; exact h6, h9, h8⟩
  rw [ha d fun hx => hap.2.1 d h2 hx]
  exact h5 (by rw [← hsz]; exact hd)

theorem put_keep {d : Option Nat} {u : Value} {t : Nat} (h : d ≠ some t) : (a.put d u).tmps[t]? = a.tmps[t]? := by
  cases d with
  | none => rfl
  | some d => rw [get_put_other (fun e => h (by rw [e]))]

theorem put_size {d : Option Nat} {u : Value} : (a.put d u).tmps.size = a.tmps.size := by simp

/-- A reading at the head of the order is taken up. -/
theorem DInv.absorb (hC : CtxOk P C) {i : Nat} {c : Cls} {rs ks : List Nat} {rest : List Ord1} (h : DInv P C an ops φ0 s0 w0 ((i, c, rs, ks) :: rest) lE l F E φ ψ s fr g a w) (hns : Region.noSelect ops = true) (hc : c % 8 ≤ 2)
    (hd : drawOk ops ((i, c, rs, ks) :: rest) lE = true) (he : evDraw std P C an ops ((i, c, rs, ks) :: rest) fr s K = some r) :
    ∃ fr' g', DInv P C an ops φ0 s0 w0 rest (lE.setIfInBounds i true) l (F ++ [i]) E φ ψ s fr' g' a w ∧ drawOk ops rest (lE.setIfInBounds i true) = true ∧ evDraw std P C an ops rest fr' s K = some r := by
  have hun := drawOk_unlisted hd
  simp only [drawOk, Bool.and_eq_true] at hd
  obtain ⟨hd1, hd2⟩ := hd
  rw [if_pos hc] at hd1
  simp only [evDraw] at he
  cases ho : ops[i]? with
  | none => simp [ho] at he
  | some o =>
    simp only [ho, Bool.and_eq_true, List.contains_iff_mem, List.isEmpty_iff] at hd1 he
    obtain ⟨⟨⟨⟨⟨rfl, rfl⟩, hr⟩, hfree⟩, hself⟩, hok⟩ := hd1
    have hlt : i < ops.size := (Array.getElem?_eq_some_iff.1 ho).1
    split at he
    · rename_i hcl
      have hcl : codeOf P C an ops fr o = c := by
        rcases hcl with hcl | ⟨_, hcl⟩
        · exact hcl
        · rw [hcl] at hc; simp at hc
      subst hcl
      have hc' := hc
      rw [code_mod] at hc'
      simp only [ahead, rechk] at he
      obtain ⟨x, hpv, hput⟩ := evOp_float hc' he
      obtain ⟨u, hy, hx⟩ := PS_sound hC h.inv hc' hpv
      obtain ⟨fr', hk, ⟨hkeep, hloc, hslot⟩, hinv⟩ := h.inv.putS hx hput
      have hiE : lE.getD i false = false := by
        have := (mem_ready.1 hr).1
        rwa [getD_ff (by rw [h.esize]; exact hlt)] at this
      have hiF : i ∉ F := fun hm => by have := h.sub i hm; rw [hiE] at this; cases this
      have hself' := selfClear_spec hself
      have hnE : ∀ e ∈ E, i ≠ e.1 := fun e he' hx => by
        obtain ⟨oe, _, _, _, _, _, h1, _, h3, _⟩ := h.early e he'
        rw [← hx, ho] at h1
        simp only [Option.some.injEq] at h1
        subst h1
        exact sa_cls (solo_spec (by rw [← hx]; exact ho) h3).1 hc'
      have hiE' : i ∉ E.map (·.1) := fun hm => by
        obtain ⟨e, he', hx⟩ := List.mem_map.1 hm
        exact hnE e he' hx.symm
      have hmono : ∀ j, lE.getD j false = true → (lE.setIfInBounds i true).getD j false = true := fun j hj => by rw [getD_set (by rw [h.esize]; exact hlt), hj]; simp
      refine ⟨fr', g.put o.dst u, ⟨hinv, by simpa using h.size, h.defers, fun t ht htE => ?_, h.lsize, by simpa using h.esize, fun j hj => ?_, fun f hf => ?_, ?_, ?_, fun f hf => ?_, fun f hf of hof d hdf q hq ok hoq => ?_, fun f hf of hof d hdf k hk2 hkf ok hok2 => ?_,
        fun f hf of hof e he' hb => ?_, fun e he' => ready_set (h.ready e he') (Ne.symm (hnE e he')) (by rw [h.esize]; exact hlt), h.ndE, h.one,
        fun e he' => h.early_keep hns ho (.inr hr) (.refl _) hkeep (fun t ht => put_keep ht) (fun _ _ => rfl) rfl (fun _ ha => ⟨⟨ha.row, by rw [hloc]; exact ha.loc⟩, rfl⟩) he' (hnE e he'), h.predsE⟩, hd2, hk⟩
      · have h1 : t ∉ dsts ops F := fun hm => ht (by
          obtain ⟨f, hf, o', ho', hd'⟩ := mem_dsts.1 hm
          exact mem_dsts.2 ⟨f, by simp [hf], o', ho', hd'⟩)
        have h2 : o.dst ≠ some t := fun e => ht (mem_dsts.2 ⟨i, by simp, o, ho, e⟩)
        rw [h.agree t h1 htE]
        cases hod : o.dst with
        | none => rfl
        | some d => rw [get_put_other (fun e => h2 (by rw [hod, e]))]
      · rw [getD_set (by rw [h.esize]; exact hlt), h.listed j hj]
        by_cases hij : i = j
        · subst hij; simp [hiE, hiE']
        · simp only [if_neg hij, List.mem_append, List.mem_singleton]
          constructor
          · rintro (⟨h1, h2⟩ | h1)
            · exact .inl ⟨h1, fun hm => hm.elim h2 fun e => hij e.symm⟩
            · exact .inr h1
          · rintro (⟨h1, h2⟩ | h1)
            · exact .inl ⟨h1, fun hm => h2 (.inl hm)⟩
            · exact .inr h1
      · rw [getD_set (by rw [h.esize]; exact hlt)]
        rcases List.mem_append.1 hf with hf | hf
        · rw [h.sub f hf]; simp
        · simp at hf; subst hf; simp
      · rw [List.nodup_append]
        exact ⟨h.nodup, by simp, fun a ha b hb => by simp at hb; subst hb; exact fun e => hiF (e ▸ ha)⟩
      · refine h.chain.append fun o' ho' e he' hb => ?_
        rw [ho] at ho'
        simp only [Option.some.injEq] at ho'
        subst ho'
        obtain ⟨_, o', ho', hall⟩ := mem_ready.1 hr
        rw [ho] at ho'
        simp only [Option.some.injEq] at ho'
        subst ho'
        have h3 := hall e he' hb
        have hl3 := lt_of_getD h3
        rw [h.esize] at hl3
        by_cases hm : e.on ∈ F
        · exact .inr (.inl hm)
        · exact .inl ((h.listed _ hl3).2 (.inl ⟨h3, hm⟩))
      · rcases List.mem_append.1 hf with hf | hf
        · obtain ⟨of, xf, h1, h2, h3, h4, h5, h6⟩ := h.pend f hf
          simp only [okAfter, ho] at h6
          rw [if_neg (by simp only [Bool.and_eq_true, decide_eq_true_eq, not_and]; intro _; exact Nat.not_le.2 (Nat.lt_succ_of_le hc))] at h6
          simp only [Bool.and_eq_true] at h6
          obtain ⟨⟨h6, h7⟩, h8⟩ := h6
          have hcl := clear_spec h6
          have hs : SameOn (of.looksAt ops) fr fr' := hkeep.same fun y hy => (hcl y hy).1
          have hcs := clsOf_same (P := P) (C := C) (an := an) hs
          have hcd := codeOf_same (P := P) (C := C) (an := an) hs
          refine ⟨of, xf, h1, by rw [hcs]; exact h2, PS_keep h2 hs (fun _ => LocSame.at (.of_eq hloc) _) (fun _ => .refl s) h3, fun d hd => ?_, h5, by rw [hcd]; exact h8⟩
          have hne : o.dst ≠ some d := fun e => (hcl d e).2 hd
          exact (h4 d hd).keep hkeep hne
        · simp at hf
          subst hf
          have hs : SameOn (o.looksAt ops) fr fr' := hkeep.same fun y hy => hself' y hy
          have hcs := clsOf_same (P := P) (C := C) (an := an) hs
          have hcd := codeOf_same (P := P) (C := C) (an := an) hs
          exact ⟨o, x, ho, by rw [hcs]; exact hc', PS_keep hc' hs (fun _ => LocSame.at (.of_eq hloc) _) (fun _ => .refl s) hpv, hslot, hself, by rw [hcd]; exact hok⟩
      · rcases List.mem_append.1 hf with hf | hf
        · exact h.apartO f hf of hof d hdf q (by simp [hq]) ok hoq
        · simp at hf
          subst hf
          rw [ho] at hof
          simp only [Option.some.injEq] at hof
          subst hof
          have hqu := drawOk_unlisted hd2 q hq
          have hqi : q.1 ≠ f := fun e => by
            rw [e, getD_ff (by simpa using (by rw [h.esize]; exact hlt)), getD_set (by rw [h.esize]; exact hlt)] at hqu
            simp at hqu
          rw [getD_set_ne true (Ne.symm hqi)] at hqu
          by_cases hedge : edgeOn ok f = true
          · exact .inl hedge
          · have hap := Region.free_spec ho hfree q.1 ok hoq hqi hqu fun e he' hb heq => hedge (edge_spec.2 ⟨e, he', hb, heq⟩)
            exact .inr ((Oper.apart_spec hap).1 d hdf)
      · rcases List.mem_append.1 hf with hf2 | hf2
        · rcases List.mem_append.1 hk2 with hk3 | hk3
          · exact h.apartF f hf2 of hof d hdf k hk3 hkf ok hok2
          · simp at hk3
            subst hk3
            exact h.apartO f hf2 of hof d hdf (k, _) (List.mem_cons_self) ok hok2
        · simp at hf2
          subst hf2
          rw [ho] at hof
          simp only [Option.some.injEq] at hof
          subst hof
          rcases List.mem_append.1 hk2 with hk3 | hk3
          · obtain ⟨ok', xk, h1, h2, h3, h4, h5, h6⟩ := h.pend k hk3
            rw [hok2] at h1
            simp only [Option.some.injEq] at h1
            subst h1
            simp only [okAfter, ho] at h6
            rw [if_neg (by simp only [Bool.and_eq_true, decide_eq_true_eq, not_and]; intro _; exact Nat.not_le.2 (Nat.lt_succ_of_le hc))] at h6
            simp only [Bool.and_eq_true] at h6
            exact .inr (clear_spec h6.1.1 d hdf).1
          · simp at hk3; exact absurd hk3 hkf
      · rcases List.mem_append.1 hf with hf | hf
        · exact hmono _ (h.predsF f hf of hof e he' hb)
        · simp at hf
          subst hf
          obtain ⟨_, o', ho', hall⟩ := mem_ready.1 hr
          rw [hof] at ho'
          simp only [Option.some.injEq] at ho'
          subst ho'
          exact hmono _ (hall e he' hb)
    · simp at he

end
end Go.Sim
