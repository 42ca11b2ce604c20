/-
  A region that draws its order: whatever order is drawn.
  A region that draws its order: the law.
  Code of the evaluator against the model's.
  Functions of the evaluator against the model's.
  A call that turns nothing that was there, seen as a reading.
  A closed call that makes new memory: reckoned once, at the empty memory, and moved behind any other.
  Arguments: what a reading of memory meets, as a heap of rows that nobody turns.
  A law's row: from the evaluator's answer to the claim's contract.
  The arguments of a law, cell by cell, and its row.
  Closed calls; laws of one answer; the row by its cells.
-/
import Derived.Test.YteiagjbjokldgaaSimRa
import Derived.ProofKit
import Derived.OpenShut
import Derived.Carry
import Derived.ChangeSame
set_option linter.unusedSimpArgs false
set_option linter.unusedVariables false
namespace Go.Sim
open Go.RowKit (Below)

section
variable {P : Program} {C : Ctx} {an : An} {φ0 φ : Phi} {ψ : Nat → Option Nat} {s0 s s' : St} {w0 w : World} {fr fr' : Fr} {a g : Act} {ops : Array Oper} {R : Type} {K : Fr → St → Option R} {X : Value → Fr → St → Option R} {r : R}

/-- The temporaries of readings that stand out. -/
def dsts (ops : Array Oper) (F : List Nat) : List Nat := F.filterMap fun f => (ops[f]?).bind (·.dst)

/-- Each waits for what has come up, or for one that stands ahead of it in the list. -/
def Chain (ops : Array Oper) (l : Array Bool) : List Nat → List Nat → Prop
  | _, [] => True
  | prev, f :: r => (∀ o, ops[f]? = some o → ∀ e ∈ o.after, Region.binds .any e = true → l.getD e.on false = true ∨ e.on ∈ prev) ∧ Chain ops l (f :: prev) r

theorem Chain.mono {l l' : Array Bool} (hl : ∀ j, l.getD j false = true → l'.getD j false = true) : ∀ {F prev prev' : List Nat}, (∀ j ∈ prev, j ∈ prev' ∨ l'.getD j false = true) → Chain ops l prev F → Chain ops l' prev' F
  | [], _, _, _, _ => trivial
  | f :: F, prev, prev', hp, h => by
    refine ⟨fun o ho e he hb => ?_, Chain.mono hl (fun j hj => ?_) h.2⟩
    · rcases h.1 o ho e he hb with h1 | h1
      · exact .inl (hl _ h1)
      · rcases hp _ h1 with h2 | h2
        · exact .inr h2
        · exact .inl h2
    · rcases List.mem_cons.1 hj with rfl | hj
      · exact .inl (by simp)
      · rcases hp j hj with h2 | h2
        · exact .inl (by simp [h2])
        · exact .inr h2

theorem Chain.append {l : Array Bool} {i : Nat} : ∀ {F prev : List Nat}, Chain ops l prev F → (∀ o, ops[i]? = some o → ∀ e ∈ o.after, Region.binds .any e = true → l.getD e.on false = true ∨ e.on ∈ F ∨ e.on ∈ prev) → Chain ops l prev (F ++ [i])
  | [], prev, _, h => ⟨fun o ho e he hb => by
      rcases h o ho e he hb with h1 | h1 | h1
      · exact .inl h1
      · simp at h1
      · exact .inr h1, trivial⟩
  | f :: F, prev, hc, h => ⟨hc.1, Chain.append hc.2 fun o ho e he hb => by
      rcases h o ho e he hb with h1 | h1 | h1
      · exact .inl h1
      · rcases List.mem_cons.1 h1 with rfl | h1
        · exact .inr (.inr (by simp))
        · exact .inr (.inl h1)
      · exact .inr (.inr (by simp [h1]))⟩

theorem Chain.erase {l l' : Array Bool} {i : Nat} (hl : ∀ j, l.getD j false = true → l'.getD j false = true) (hi : l'.getD i false = true) : ∀ {F prev prev' : List Nat}, (∀ j ∈ prev, j ∈ prev' ∨ l'.getD j false = true) → Chain ops l prev F → Chain ops l' prev' (F.erase i)
  | [], _, _, _, _ => trivial
  | f :: F, prev, prev', hp, h => by
    by_cases hf : f = i
    · subst hf
      rw [List.erase_cons_head]
      exact Chain.mono hl (fun j hj => by
        rcases List.mem_cons.1 hj with rfl | hj
        · exact .inr hi
        · exact hp j hj) h.2
    · rw [List.erase_cons_tail (by simpa using hf)]
      refine ⟨fun o ho e he hb => ?_, Chain.erase hl hi (fun j hj => ?_) h.2⟩
      · rcases h.1 o ho e he hb with h1 | h1
        · exact .inl (hl _ h1)
        · rcases hp _ h1 with h2 | h2
          · exact .inr h2
          · exact .inl h2
      · rcases List.mem_cons.1 hj with rfl | hj
        · exact .inl (by simp)
        · rcases hp j hj with h2 | h2
          · exact .inl (by simp [h2])
          · exact .inr h2

structure DInv (P : Program) (C : Ctx) (an : An) (ops : Array Oper) (φ0 : Phi) (s0 : St) (w0 : World) (ord : List Ord1) (lE l : Array Bool) (F : List Nat) (E : List (Nat × Nat)) (φ : Phi) (ψ : Nat → Option Nat) (s : St) (fr : Fr) (g a : Act) (w : World) : Prop where
  inv : InvA an φ0 s0 w0 φ ψ s fr g w
  size : a.tmps.size = g.tmps.size
  defers : a.defers = an.D
  agree : ∀ t, t ∉ dsts ops F → t ∉ dsts ops (E.map (·.1)) → a.tmps[t]? = g.tmps[t]?
  lsize : l.size = ops.size
  esize : lE.size = ops.size
  listed : ∀ j, j < ops.size → (l.getD j false = true ↔ (lE.getD j false = true ∧ j ∉ F) ∨ j ∈ E.map (·.1))
  sub : ∀ f ∈ F, lE.getD f false = true
  nodup : F.Nodup
  chain : Chain ops l [] F
  pend : ∀ f ∈ F, ∃ o x, ops[f]? = some o ∧ clsOf P C an ops fr o ≤ 2 ∧ PS P C an ops fr s o x ∧ (∀ d, o.dst = some d → SlotIn fr d x) ∧ selfClear ops o = true ∧ okAfter ops o f (codeOf P C an ops fr o) ord = true
  apartO : ∀ f ∈ F, ∀ o, ops[f]? = some o → ∀ d, o.dst = some d → ∀ q ∈ ord, ∀ ok, ops[q.1]? = some ok → edgeOn ok f = true ∨ d ∉ ok.looksAt ops
  apartF : ∀ f ∈ F, ∀ o, ops[f]? = some o → ∀ d, o.dst = some d → ∀ k ∈ F, k ≠ f → ∀ ok, ops[k]? = some ok → edgeOn ok f = true ∨ d ∉ ok.looksAt ops
  predsF : ∀ f ∈ F, ∀ o, ops[f]? = some o → ∀ e ∈ o.after, Region.binds .any e = true → lE.getD e.on false = true
  ready : ∀ e ∈ E, e.1 ∈ Region.ready .any ops lE
  ndE : (E.map (·.1)).Nodup
  one : ∀ e ∈ E, ∀ e' ∈ E, e.2 = e'.2 → e = e'
  early : ∀ e ∈ E, ∃ o d kb va mk blk, ops[e.1]? = some o ∧ o.dst = some d ∧ soloOk ops e.1 = true ∧ SAft P C an φ fr g o kb va mk blk ∧ (d < a.tmps.size → a.tmps[d]? = some (mk e.2)) ∧ w.heap[e.2]? = some blk ∧ Away φ ψ s fr e.2 ∧ w0.heap.size ≤ e.2
  predsE : ∀ e ∈ E, ∀ o, ops[e.1]? = some o → ∀ p ∈ o.after, Region.binds .any p = true → l.getD p.on false = true

theorem getD_ff {l : Array Bool} {j : Nat} (hj : j < l.size) : l.getD j true = l.getD j false := by
  simp [Array.getD_eq_getD_getElem?, hj]

theorem lt_of_getD {l : Array Bool} {j : Nat} (h : l.getD j false = true) : j < l.size := by
  rcases Nat.lt_or_ge j l.size with h' | h'
  · exact h'
  · simp [Array.getD_eq_getD_getElem?, Array.getElem?_eq_none h'] at h

theorem lt_of_getD' {l : Array Bool} {j : Nat} (h : l.getD j true = false) : j < l.size := by
  rcases Nat.lt_or_ge j l.size with h' | h'
  · exact h'
  · simp [Array.getD_eq_getD_getElem?, Array.getElem?_eq_none h'] at h

theorem getD_set {l : Array Bool} {i j : Nat} (hi : i < l.size) : (l.setIfInBounds i true).getD j false = (if i = j then true else l.getD j false) := by
  simp only [Array.getD_eq_getD_getElem?, Array.getElem?_setIfInBounds]
  by_cases h : i = j
  · subst h; simp [hi]
  · simp [h]

theorem edge_spec {o : Oper} {i : Nat} : edgeOn o i = true ↔ ∃ e ∈ o.after, Region.binds .any e = true ∧ e.on = i := by
  unfold edgeOn
  rw [Array.any_eq_true']
  simp

theorem selfClear_spec {o : Oper} (h : selfClear ops o = true) : ∀ d, o.dst = some d → d ∉ o.looksAt ops := by
  intro d hd
  simpa [selfClear, hd] using h

theorem clear_spec {oi ok : Oper} (h : clear ops oi ok = true) : ∀ d, ok.dst = some d → d ∉ oi.looksAt ops ∧ oi.dst ≠ some d := by
  intro d hd
  simpa [clear, hd] using h

theorem Keeps.same {d : Option Nat} {ts : List Nat} (h : Keeps fr fr' d) (hd : ∀ x, d = some x → x ∉ ts) : SameOn ts fr fr' :=
  fun t ht => ⟨h.e t fun e => hd t e ht, h.g t fun e => hd t e ht⟩

theorem drawOk_unlisted : ∀ {ord : List Ord1} {l : Array Bool}, drawOk ops ord l = true → ∀ q ∈ ord, l.getD q.1 true = false
  | [], _, _, q, hq => by simp at hq
  | (i, c, rs, ks) :: rest, l, h, q, hq => by
    simp only [drawOk, Bool.and_eq_true] at h
    obtain ⟨h1, h2⟩ := h
    have hi : l.getD i true = false := by
      split at h1
      · split at h1
        · simp only [Bool.and_eq_true, List.contains_iff_mem] at h1
          exact (mem_ready.1 h1.1.1.1.2).1
        · simp at h1
      · simp only [Bool.and_eq_true, List.contains_iff_mem] at h1
        exact (mem_ready.1 h1.1.1.1).1
    rcases List.mem_cons.1 hq with rfl | hq
    · exact hi
    · have := drawOk_unlisted h2 q hq
      by_cases hqi : q.1 = i
      · rw [hqi]; exact hi
      · rwa [getD_set_ne true (Ne.symm hqi)] at this

variable {ord : List Ord1} {lE l : Array Bool} {F : List Nat} {E : List (Nat × Nat)}

theorem solo_spec {k : Nat} {ok : Oper} (hk : ops[k]? = some ok) (h : soloOk ops k = true) : saKind ok = true ∧ selfClear ops ok = true ∧ ∀ m om, m ≠ k → ops[m]? = some om → edgeOn om k ≠ true → edgeOn ok m ≠ true → ok.apart ops om = true := by
  simp only [soloOk, hk, Bool.and_eq_true, List.all_eq_true, List.mem_range] at h
  refine ⟨h.1.1, h.1.2, fun m om hne hm h1 h2 => ?_⟩
  have h3 := h.2 m (Array.getElem?_eq_some_iff.1 hm).1
  simp only [hm, Bool.or_eq_true, beq_iff_eq, hne, false_or] at h3
  rcases h3 with (h3 | h3) | h3
  · exact absurd h3 h1
  · exact absurd h3 h2
  · exact h3

theorem sa_cls {fr : Fr} {o : Oper} (h : saKind o = true) : ¬ clsOf P C an ops fr o ≤ 2 := by
  obtain ⟨dst, op, ty, pos, after, guard⟩ := o
  unfold saKind at h
  split at h
  · rename_i h1 h2 h3
    simp only at h1 h2 h3
    subst h1; subst h2; subst h3
    simp only [clsOf]
    split <;> simp
  · rename_i h1 h2 h3
    simp only at h1 h2 h3
    subst h1; subst h2; subst h3
    simp only [clsOf]
    split <;> simp
  · rename_i h1 h2 h3
    simp only at h1 h2 h3
    subst h3
    simp [clsOf]
  · rename_i h1 h2 h3
    simp only at h1 h2 h3
    subst h3
    simp [clsOf]
  · rename_i h1 h2 h3
    simp only at h1 h2 h3
    subst h3
    simp [clsOf]
  · simp at h

theorem sa_opR {o : Oper} (hk : saKind o = true) (hs : SameOn (o.looksAt ops) fr fr') (s : St) : opR std P C an fr' s none o = opR std P C an fr s none o := by
  obtain ⟨dst, op, ty, pos, after, guard⟩ := o
  unfold saKind at hk
  split at hk
  · rename_i h1 h2 h3
    simp only at h1 h2 h3
    subst h1; subst h2; subst h3
    rfl
  · rename_i t x h1 h2 h3
    simp only at h1 h2 h3
    subst h1; subst h2; subst h3
    simp only [opR, (hs.op (x := x) (by simp [Op.operands])).v]
  · rename_i t len ps h1 h2 h3
    simp only at h1 h2 h3
    subst h1; subst h2; subst h3
    simp only [opR, same_ps (fr := fr) (fr' := fr') (l := ps.toList) fun q hq => hs.op (by simp only [Op.operands]; simp at hq ⊢; exact ⟨_, hq⟩)]
  · rename_i t lo co h1 h2 h3
    simp only at h1 h2 h3
    subst h1; subst h2; subst h3
    simp only [opR, (hs.op (x := lo) (by simp [Op.operands])).v, (hs.op (x := co) (by simp [Op.operands])).v]
  · rename_i h1 h2 h3
    simp only at h1 h2 h3
    subst h1; subst h2; subst h3
    rfl
  · simp at hk

theorem sa_guard {o : Oper} (hk : saKind o = true) : o.guard = none ∧ ∃ d, o.dst = some d := by
  obtain ⟨dst, op, ty, pos, after, guard⟩ := o
  unfold saKind at hk
  split at hk <;> first | (simp at hk; done) | (rename_i h1 h2 h3; simp only at h1 h2 h3; subst h1; subst h2; exact ⟨rfl, _, rfl⟩)

/-- It makes the same from another frame that holds the same. -/
theorem SAft.keep {g' : Act} {o : Oper} {kb : Blk} {va mk : Nat → Value} {blk : Obj} (h : SAft P C an φ fr g o kb va mk blk) (hk : saKind o = true) (hs : SameOn (o.looksAt ops) fr fr') (hns : ∀ cs b, o.op ≠ .select cs b)
    (hg : ∀ t ∈ o.looksAt ops, g'.tmps[t]? = g.tmps[t]?) : SAft P C an φ fr' g' o kb va mk blk :=
  ⟨fun s => by rw [sa_opR hk hs s]; exact h.abs s, fun w => by rw [(exec_same hns hg).1]; exact h.run w, h.rel, h.below, h.froz, h.nb⟩

theorem DInv.inl (h : DInv P C an ops φ0 s0 w0 ord lE l F E φ ψ s fr g a w) {e : Nat × Nat} (he : e ∈ E) : lE.getD e.1 false = false ∧ l.getD e.1 false = true ∧ e.1 < ops.size ∧ e.1 ∉ F := by
  obtain ⟨h1, o, ho, _⟩ := mem_ready.1 (h.ready e he)
  have hlt : e.1 < ops.size := (Array.getElem?_eq_some_iff.1 ho).1
  rw [getD_ff (by rw [h.esize]; exact hlt)] at h1
  exact ⟨h1, (h.listed _ hlt).2 (.inr (List.mem_map.2 ⟨e, he, rfl⟩)), hlt, fun hf => by have := h.sub _ hf; rw [h1] at this; cases this⟩

theorem edge_pred {o : Oper} {i : Nat} {l : Array Bool} (hall : ∀ e ∈ o.after, Region.binds .any e = true → l.getD e.on false = true) (he : edgeOn o i = true) : l.getD i false = true := by
  obtain ⟨e, h1, h2, rfl⟩ := edge_spec.1 he
  exact hall e h1 h2

/-- New memory made ahead stands apart from what comes and from what has not come up. -/
theorem DInv.solo (h : DInv P C an ops φ0 s0 w0 ord lE l F E φ ψ s fr g a w) {e : Nat × Nat} (he : e ∈ E) {oe : Oper} (hoe : ops[e.1]? = some oe) {m : Nat} {om : Oper} (hm : ops[m]? = some om) (hne : m ≠ e.1)
    (hc : m ∈ F ∨ m ∈ Region.ready .any ops lE) : oe.apart ops om = true := by
  obtain ⟨o, d, kb, va, mk, blk, ho, hd, hso, _⟩ := h.early e he
  rw [hoe] at ho
  simp only [Option.some.injEq] at ho
  subst ho
  obtain ⟨hl1, hl2, hlt, hnF⟩ := h.inl he
  refine (solo_spec hoe hso).2.2 m om hne hm (fun hx => ?_) (fun hx => ?_)
  · rcases hc with hc | hc
    · have := edge_pred (h.predsF m hc om hm) hx
      rw [hl1] at this; cases this
    · obtain ⟨_, o', ho', hall⟩ := mem_ready.1 hc
      rw [hm] at ho'
      simp only [Option.some.injEq] at ho'
      subst ho'
      have := edge_pred hall hx
      rw [hl1] at this; cases this
  · rcases hc with hc | hc
    · have := edge_pred (h.predsE e he oe hoe) hx
      have hml : m < ops.size := (Array.getElem?_eq_some_iff.1 hm).1
      rcases (h.listed m hml).1 this with h1 | h1
      · exact h1.2 hc
      · obtain ⟨e', he', rfl⟩ := List.mem_map.1 h1
        exact (h.inl he').2.2.2 hc
    · obtain ⟨_, o', ho', hall⟩ := mem_ready.1 (h.ready e he)
      rw [hoe] at ho'
      simp only [Option.some.injEq] at ho'
      subst ho'
      have := edge_pred hall hx
      obtain ⟨h3, _⟩ := mem_ready.1 hc
      rw [getD_ff (by rw [h.esize]; exact (Array.getElem?_eq_some_iff.1 hm).1), this] at h3
      cases h3

theorem DInv.edge_listed (h : DInv P C an ops φ0 s0 w0 ord lE l F E φ ψ s fr g a w) {k f : Nat} {ok : Oper} (hk : k ∈ Region.ready .any ops l) (ho : ops[k]? = some ok) (hf : f ∈ F) : edgeOn ok f ≠ true := by
  intro he
  obtain ⟨e, h1, h2, rfl⟩ := edge_spec.1 he
  obtain ⟨_, o, ho', hall⟩ := mem_ready.1 hk
  rw [ho] at ho'
  simp only [Option.some.injEq] at ho'
  subst ho'
  have h3 := hall e h1 h2
  have hlt := lt_of_getD h3
  rw [h.lsize] at hlt
  rcases (h.listed _ hlt).1 h3 with h4 | h4
  · exact h4.2 hf
  · obtain ⟨e', he', h5⟩ := List.mem_map.1 h4
    exact (h.inl he').2.2.2 (by rw [h5]; exact hf)

theorem DInv.ready' (h : DInv P C an ops φ0 s0 w0 ord lE l F E φ ψ s fr g a w) {k : Nat} (hk : k ∈ Region.ready .any ops l) : k ∈ F ∨ (lE.getD k true = false ∧ k ∉ E.map (·.1) ∧ ∃ o, ops[k]? = some o ∧ ∀ e ∈ o.after, Region.binds .any e = true → lE.getD e.on false = true ∨ e.on ∈ E.map (·.1)) := by
  obtain ⟨h1, o, ho, hall⟩ := mem_ready.1 hk
  have hlt : k < ops.size := (Array.getElem?_eq_some_iff.1 ho).1
  by_cases hF : k ∈ F
  · exact .inl hF
  · rw [getD_ff (by rw [h.lsize]; exact hlt)] at h1
    refine .inr ⟨?_, fun hE => ?_, o, ho, fun e he hb => ?_⟩
    · rw [getD_ff (by rw [h.esize]; exact hlt)]
      cases hl : lE.getD k false with
      | false => rfl
      | true => have := (h.listed k hlt).2 (.inl ⟨hl, hF⟩); rw [h1] at this; cases this
    · have := (h.listed k hlt).2 (.inr hE); rw [h1] at this; cases this
    · have h3 := hall e he hb
      have hlt := lt_of_getD h3
      rw [h.lsize] at hlt
      rcases (h.listed _ hlt).1 h3 with h4 | h4
      · exact .inl h4.1
      · exact .inr h4

theorem DInv.first {f : Nat} (h : DInv P C an ops φ0 s0 w0 ord lE l (f :: F) E φ ψ s fr g a w) : f ∈ Region.ready .any ops l := by
  obtain ⟨o, x, ho, _⟩ := h.pend f (by simp)
  have hlt : f < ops.size := (Array.getElem?_eq_some_iff.1 ho).1
  refine mem_ready.2 ⟨?_, o, ho, fun e he hb => ?_⟩
  · rw [getD_ff (by rw [h.lsize]; exact hlt)]
    cases hl : l.getD f false with
    | false => rfl
    | true =>
      rcases (h.listed f hlt).1 hl with h4 | h4
      · exact absurd (List.mem_cons_self) h4.2
      · obtain ⟨e', he', rfl⟩ := List.mem_map.1 h4
        exact absurd (List.mem_cons_self) (h.inl he').2.2.2
  · rcases h.chain.1 o ho e he hb with h1 | h1
    · exact h1
    · simp at h1

theorem mem_dsts {F : List Nat} {t : Nat} : t ∈ dsts ops F ↔ ∃ f ∈ F, ∃ o, ops[f]? = some o ∧ o.dst = some t := by
  simp only [dsts, List.mem_filterMap, Option.bind_eq_some_iff]

theorem ready_set {k i : Nat} (hk : k ∈ Region.ready .any ops lE) (hne : k ≠ i) (hi : i < lE.size) : k ∈ Region.ready .any ops (lE.setIfInBounds i true) := by
  obtain ⟨h1, o, ho, hall⟩ := mem_ready.1 hk
  refine mem_ready.2 ⟨by rw [getD_set_ne true (Ne.symm hne)]; exact h1, o, ho, fun e he hb => ?_⟩
  rw [getD_set hi, hall e he hb]
  simp

/-- What is made ahead stays so while others come. -/
theorem DInv.early_keep {φ' : Phi} {ψ' : Nat → Option Nat} {s' : St} {fr' : Fr} {g' a' : Act} {w' : World} (h : DInv P C an ops φ0 s0 w0 ord lE l F E φ ψ s fr g a w) (hns : Region.noSelect ops = true) {i : Nat} {o : Oper} (ho : ops[i]? = some o)
    (hc : i ∈ F ∨ i ∈ Region.ready .any ops lE) (hle : φ.le φ') (hk : Keeps fr fr' o.dst) (hg : ∀ t, o.dst ≠ some t → g'.tmps[t]? = g.tmps[t]?) (ha : ∀ t, o.dst ≠ some t → a'.tmps[t]? = a.tmps[t]?) (hsz : a'.tmps.size = a.tmps.size)
    {e : Nat × Nat} (hw : e.2 < w.heap.size → Away φ ψ s fr e.2 → Away φ' ψ' s' fr' e.2 ∧ w'.heap[e.2]? = w.heap[e.2]?) (he : e ∈ E) (hne : i ≠ e.1) :
    ∃ o d kb va mk blk, ops[e.1]? = some o ∧ o.dst = some d ∧ soloOk ops e.1 = true ∧ SAft P C an φ' fr' g' o kb va mk blk ∧ (d < a'.tmps.size → a'.tmps[d]? = some (mk e.2)) ∧ w'.heap[e.2]? = some blk ∧ Away φ' ψ' s' fr' e.2 ∧ w0.heap.size ≤ e.2 := by
  obtain ⟨oe, d, kb, va, mk, blk, h1, h2, h3, h4, h5, h6, h7, h8⟩ := h.early e he
  have hap := Oper.apart_spec (h.solo he h1 ho hne hc)
  have hlt : e.2 < w.heap.size := (Array.getElem?_eq_some_iff.1 h6).1
  obtain ⟨h9, h10⟩ := hw hlt h7
  have hsa := (solo_spec h1 h3).1
  refine ⟨oe, d, kb, va, mk, blk, h1, h2, h3, (h4.mono hle).keep (ops := ops) hsa (hk.same fun x hx => hap.2.2 x hx) (fun cs b => Region.noSelect_spec hns e.1 oe cs b h1) (fun t ht => hg t fun hd => hap.2.2 t hd ht), fun hd => ?_, by rw [h10]; exact h6, h9, h8⟩
  rw [ha d fun hx => hap.2.1 d h2 hx]
  exact h5 (by rw [← hsz]; exact hd)

theorem put_keep {d : Option Nat} {u : Value} {t : Nat} (h : d ≠ some t) : (a.put d u).tmps[t]? = a.tmps[t]? := by
  cases d with
  | none => rfl
  | some d => rw [get_put_other (fun e => h (by rw [e]))]

theorem put_size {d : Option Nat} {u : Value} : (a.put d u).tmps.size = a.tmps.size := by simp

/-- A reading at the head of the order is taken up. -/
theorem DInv.absorb (hC : CtxOk P C) {i : Nat} {c : Cls} {rs ks : List Nat} {rest : List Ord1} (h : DInv P C an ops φ0 s0 w0 ((i, c, rs, ks) :: rest) lE l F E φ ψ s fr g a w) (hns : Region.noSelect ops = true) (hc : c % 8 ≤ 2)
    (hd : drawOk ops ((i, c, rs, ks) :: rest) lE = true) (he : evDraw std P C an ops ((i, c, rs, ks) :: rest) fr s X K = some r) :
    ∃ fr' g', DInv P C an ops φ0 s0 w0 rest (lE.setIfInBounds i true) l (F ++ [i]) E φ ψ s fr' g' a w ∧ drawOk ops rest (lE.setIfInBounds i true) = true ∧ evDraw std P C an ops rest fr' s X K = some r := by
  have hun := drawOk_unlisted hd
  simp only [drawOk, Bool.and_eq_true] at hd
  obtain ⟨hd1, hd2⟩ := hd
  rw [if_pos hc] at hd1
  simp only [evDraw] at he
  cases ho : ops[i]? with
  | none => simp [ho] at he
  | some o =>
    simp only [ho, Bool.and_eq_true, List.contains_iff_mem, List.isEmpty_iff] at hd1 he
    obtain ⟨⟨⟨⟨⟨rfl, rfl⟩, hr⟩, hfree⟩, hself⟩, hok⟩ := hd1
    have hlt : i < ops.size := (Array.getElem?_eq_some_iff.1 ho).1
    split at he
    · rename_i hcl
      have hcl : codeOf P C an ops fr o = c := by
        rcases hcl with hcl | ⟨_, hcl⟩
        · exact hcl
        · rw [hcl] at hc; simp at hc
      subst hcl
      have hc' := hc
      rw [code_mod] at hc'
      simp only [ahead, rechk] at he
      obtain ⟨x, hpv, hput⟩ := evOp_float hc' he
      obtain ⟨u, hy, hx⟩ := PS_sound hC h.inv hc' hpv
      obtain ⟨fr', hk, ⟨hkeep, hloc, hslot⟩, hinv⟩ := h.inv.putS hx hput
      have hiE : lE.getD i false = false := by
        have := (mem_ready.1 hr).1
        rwa [getD_ff (by rw [h.esize]; exact hlt)] at this
      have hiF : i ∉ F := fun hm => by have := h.sub i hm; rw [hiE] at this; cases this
      have hself' := selfClear_spec hself
      have hnE : ∀ e ∈ E, i ≠ e.1 := fun e he' hx => by
        obtain ⟨oe, _, _, _, _, _, h1, _, h3, _⟩ := h.early e he'
        rw [← hx, ho] at h1
        simp only [Option.some.injEq] at h1
        subst h1
        exact sa_cls (solo_spec (by rw [← hx]; exact ho) h3).1 hc'
      have hiE' : i ∉ E.map (·.1) := fun hm => by
        obtain ⟨e, he', hx⟩ := List.mem_map.1 hm
        exact hnE e he' hx.symm
      have hmono : ∀ j, lE.getD j false = true → (lE.setIfInBounds i true).getD j false = true := fun j hj => by rw [getD_set (by rw [h.esize]; exact hlt), hj]; simp
      refine ⟨fr', g.put o.dst u, ⟨hinv, by simpa using h.size, h.defers, fun t ht htE => ?_, h.lsize, by simpa using h.esize, fun j hj => ?_, fun f hf => ?_, ?_, ?_, fun f hf => ?_, fun f hf of hof d hdf q hq ok hoq => ?_, fun f hf of hof d hdf k hk2 hkf ok hok2 => ?_,
        fun f hf of hof e he' hb => ?_, fun e he' => ready_set (h.ready e he') (Ne.symm (hnE e he')) (by rw [h.esize]; exact hlt), h.ndE, h.one,
        fun e he' => h.early_keep hns ho (.inr hr) (.refl _) hkeep (fun t ht => put_keep ht) (fun _ _ => rfl) rfl (fun _ ha => ⟨⟨ha.row, by rw [hloc]; exact ha.loc⟩, rfl⟩) he' (hnE e he'), h.predsE⟩, hd2, hk⟩
      · have h1 : t ∉ dsts ops F := fun hm => ht (by
          obtain ⟨f, hf, o', ho', hd'⟩ := mem_dsts.1 hm
          exact mem_dsts.2 ⟨f, by simp [hf], o', ho', hd'⟩)
        have h2 : o.dst ≠ some t := fun e => ht (mem_dsts.2 ⟨i, by simp, o, ho, e⟩)
        rw [h.agree t h1 htE]
        cases hod : o.dst with
        | none => rfl
        | some d => rw [get_put_other (fun e => h2 (by rw [hod, e]))]
      · rw [getD_set (by rw [h.esize]; exact hlt), h.listed j hj]
        by_cases hij : i = j
        · subst hij; simp [hiE, hiE']
        · simp only [if_neg hij, List.mem_append, List.mem_singleton]
          constructor
          · rintro (⟨h1, h2⟩ | h1)
            · exact .inl ⟨h1, fun hm => hm.elim h2 fun e => hij e.symm⟩
            · exact .inr h1
          · rintro (⟨h1, h2⟩ | h1)
            · exact .inl ⟨h1, fun hm => h2 (.inl hm)⟩
            · exact .inr h1
      · rw [getD_set (by rw [h.esize]; exact hlt)]
        rcases List.mem_append.1 hf with hf | hf
        · rw [h.sub f hf]; simp
        · simp at hf; subst hf; simp
      · rw [List.nodup_append]
        exact ⟨h.nodup, by simp, fun a ha b hb => by simp at hb; subst hb; exact fun e => hiF (e ▸ ha)⟩
      · refine h.chain.append fun o' ho' e he' hb => ?_
        rw [ho] at ho'
        simp only [Option.some.injEq] at ho'
        subst ho'
        obtain ⟨_, o', ho', hall⟩ := mem_ready.1 hr
        rw [ho] at ho'
        simp only [Option.some.injEq] at ho'
        subst ho'
        have h3 := hall e he' hb
        have hl3 := lt_of_getD h3
        rw [h.esize] at hl3
        by_cases hm : e.on ∈ F
        · exact .inr (.inl hm)
        · exact .inl ((h.listed _ hl3).2 (.inl ⟨h3, hm⟩))
      · rcases List.mem_append.1 hf with hf | hf
        · obtain ⟨of, xf, h1, h2, h3, h4, h5, h6⟩ := h.pend f hf
          simp only [okAfter, ho] at h6
          rw [if_neg (by simp only [Bool.and_eq_true, decide_eq_true_eq, not_and]; intro _; exact Nat.not_le.2 (Nat.lt_succ_of_le hc))] at h6
          simp only [Bool.and_eq_true] at h6
          obtain ⟨⟨h6, h7⟩, h8⟩ := h6
          have hcl := clear_spec h6
          have hs : SameOn (of.looksAt ops) fr fr' := hkeep.same fun y hy => (hcl y hy).1
          have hcs := clsOf_same (P := P) (C := C) (an := an) hs
          have hcd := codeOf_same (P := P) (C := C) (an := an) hs
          refine ⟨of, xf, h1, by rw [hcs]; exact h2, PS_keep h2 hs (fun _ => LocSame.at (.of_eq hloc) _) (fun _ => .refl s) h3, fun d hd => ?_, h5, by rw [hcd]; exact h8⟩
          have hne : o.dst ≠ some d := fun e => (hcl d e).2 hd
          exact (h4 d hd).keep hkeep hne
        · simp at hf
          subst hf
          have hs : SameOn (o.looksAt ops) fr fr' := hkeep.same fun y hy => hself' y hy
          have hcs := clsOf_same (P := P) (C := C) (an := an) hs
          have hcd := codeOf_same (P := P) (C := C) (an := an) hs
          exact ⟨o, x, ho, by rw [hcs]; exact hc', PS_keep hc' hs (fun _ => LocSame.at (.of_eq hloc) _) (fun _ => .refl s) hpv, hslot, hself, by rw [hcd]; exact hok⟩
      · rcases List.mem_append.1 hf with hf | hf
        · exact h.apartO f hf of hof d hdf q (by simp [hq]) ok hoq
        · simp at hf
          subst hf
          rw [ho] at hof
          simp only [Option.some.injEq] at hof
          subst hof
          have hqu := drawOk_unlisted hd2 q hq
          have hqi : q.1 ≠ f := fun e => by
            rw [e, getD_ff (by simpa using (by rw [h.esize]; exact hlt)), getD_set (by rw [h.esize]; exact hlt)] at hqu
            simp at hqu
          rw [getD_set_ne true (Ne.symm hqi)] at hqu
          by_cases hedge : edgeOn ok f = true
          · exact .inl hedge
          · have hap := Region.free_spec ho hfree q.1 ok hoq hqi hqu fun e he' hb heq => hedge (edge_spec.2 ⟨e, he', hb, heq⟩)
            exact .inr ((Oper.apart_spec hap).1 d hdf)
      · rcases List.mem_append.1 hf with hf2 | hf2
        · rcases List.mem_append.1 hk2 with hk3 | hk3
          · exact h.apartF f hf2 of hof d hdf k hk3 hkf ok hok2
          · simp at hk3
            subst hk3
            exact h.apartO f hf2 of hof d hdf (k, _) (List.mem_cons_self) ok hok2
        · simp at hf2
          subst hf2
          rw [ho] at hof
          simp only [Option.some.injEq] at hof
          subst hof
          rcases List.mem_append.1 hk2 with hk3 | hk3
          · obtain ⟨ok', xk, h1, h2, h3, h4, h5, h6⟩ := h.pend k hk3
            rw [hok2] at h1
            simp only [Option.some.injEq] at h1
            subst h1
            simp only [okAfter, ho] at h6
            rw [if_neg (by simp only [Bool.and_eq_true, decide_eq_true_eq, not_and]; intro _; exact Nat.not_le.2 (Nat.lt_succ_of_le hc))] at h6
            simp only [Bool.and_eq_true] at h6
            exact .inr (clear_spec h6.1.1 d hdf).1
          · simp at hk3; exact absurd hk3 hkf
      · rcases List.mem_append.1 hf with hf | hf
        · exact hmono _ (h.predsF f hf of hof e he' hb)
        · simp at hf
          subst hf
          obtain ⟨_, o', ho', hall⟩ := mem_ready.1 hr
          rw [hof] at ho'
          simp only [Option.some.injEq] at ho'
          subst ho'
          exact hmono _ (hall e he' hb)
    · simp at he

end
end Go.Sim
set_option linter.unusedSimpArgs false
set_option linter.unusedVariables false
namespace Go.Sim
open Go.RowKit (Below)

section
variable {P : Program} {C : Ctx} {an : An} {φ0 φ : Phi} {ψ : Nat → Option Nat} {s0 s s' : St} {w0 w : World} {fr fr' : Fr} {a g : Act} {ops : Array Oper} {R : Type} {K : Fr → St → Option R} {X : Value → Fr → St → Option R} {r : R}
  {ord : List Ord1} {lE l : Array Bool} {F : List Nat} {E : List (Nat × Nat)}

theorem put_agree {d : Option Nat} {u : Value} {t : Nat} (hs : a.tmps.size = g.tmps.size) (h : d ≠ some t → a.tmps[t]? = g.tmps[t]?) : (a.put d u).tmps[t]? = (g.put d u).tmps[t]? := by
  cases d with
  | none => exact h (by simp)
  | some d =>
    by_cases ht : t = d
    · subst ht
      simp only [Act.put, Array.getElem?_setIfInBounds]
      simp [hs]
    · rw [get_put_other ht, get_put_other ht]
      exact h (by simp only [ne_eq, Option.some.injEq]; exact fun e => ht e.symm)

theorem mem_dstsE {t : Nat} : t ∈ dsts ops (E.map (·.1)) ↔ ∃ e ∈ E, ∃ o, ops[e.1]? = some o ∧ o.dst = some t := by
  rw [mem_dsts]
  constructor
  · rintro ⟨f, hf, o, h1, h2⟩
    obtain ⟨e, he, rfl⟩ := List.mem_map.1 hf
    exact ⟨e, he, o, h1, h2⟩
  · rintro ⟨e, he, o, h1, h2⟩
    exact ⟨e.1, List.mem_map.2 ⟨e, he, rfl⟩, o, h1, h2⟩

/-- One that stood out comes up. -/
theorem DInv.comes (hC : CtxOk P C) (h : DInv P C an ops φ0 s0 w0 ord lE l F E φ ψ s fr g a w) {f : Nat} (hf : f ∈ F) (hr : f ∈ Region.ready .any ops l) (hns : Region.noSelect ops = true) :
    ∃ o, ops[f]? = some o ∧ StepE P ops o a w fun u w' => ∃ g', DInv P C an ops φ0 s0 w0 ord lE (l.setIfInBounds f true) (F.erase f) E φ ψ s fr g' (a.put o.dst u) w' := by
  obtain ⟨o, x, ho, hc, hpv, hslot, hself, hok⟩ := h.pend f hf
  have hlt : f < ops.size := (Array.getElem?_eq_some_iff.1 ho).1
  have hfE : ∀ e ∈ E, f ≠ e.1 := fun e he hx => (h.inl he).2.2.2 (hx ▸ hf)
  obtain ⟨u, hy, hx⟩ := PS_sound hC h.inv hc hpv
  refine ⟨o, ho, StepE.same (g := g) (fun cs b => Region.noSelect_spec hns f o cs b ho) (fun t ht => h.agree t (fun hm => ?_) fun hm => ?_) (hy.step ?_)⟩
  · obtain ⟨k, hk, ok, hok2, hd⟩ := mem_dsts.1 hm
    by_cases hkf : k = f
    · subst hkf
      rw [ho] at hok2
      simp only [Option.some.injEq] at hok2
      subst hok2
      exact selfClear_spec hself t hd ht
    · rcases h.apartF k hk ok hok2 t hd f hf (Ne.symm hkf) o ho with h1 | h1
      · exact h.edge_listed hr ho hk h1
      · exact h1 ht
  · obtain ⟨e, he, oe, hoe, hd⟩ := mem_dstsE.1 hm
    exact (Oper.apart_spec (h.solo he hoe ho (hfE e he) (.inl hf))).1 t hd ht
  · have hinv := h.inv.reput hslot hx
    have hls : f < l.size := by rw [h.lsize]; exact hlt
    have hmono : ∀ j, l.getD j false = true → (l.setIfInBounds f true).getD j false = true := fun j hj => by rw [getD_set hls, hj]; simp
    refine ⟨g.put o.dst u, hinv, by simpa using h.size, by simpa using h.defers, fun t ht htE => put_agree h.size fun hd => h.agree t (fun hm => ?_) htE, by simpa using h.lsize, h.esize, fun j hj => ?_, fun k hk => h.sub k (List.mem_of_mem_erase hk), h.nodup.erase f,
      h.chain.erase hmono (by rw [getD_set hls]; simp) (fun j hj => by simp at hj), fun k hk => h.pend k (List.mem_of_mem_erase hk), fun k hk => h.apartO k (List.mem_of_mem_erase hk), fun k hk ok hok d hd j hj => h.apartF k (List.mem_of_mem_erase hk) ok hok d hd j (List.mem_of_mem_erase hj),
      fun k hk => h.predsF k (List.mem_of_mem_erase hk), h.ready, h.ndE, h.one,
      fun e he => h.early_keep hns ho (.inl hf) (.refl _) (Keeps.refl _ _) (fun t ht => put_keep ht) (fun t ht => put_keep ht) put_size (fun _ ha => ⟨ha, rfl⟩) he (hfE e he), fun e he oe hoe p hp hb => hmono _ (h.predsE e he oe hoe p hp hb)⟩
    · obtain ⟨k, hk, ok, hok2, hd2⟩ := mem_dsts.1 hm
      by_cases hkf : k = f
      · subst hkf
        rw [ho] at hok2
        simp only [Option.some.injEq] at hok2
        subst hok2
        exact hd hd2
      · exact ht (mem_dsts.2 ⟨k, (List.mem_erase_of_ne hkf).2 hk, ok, hok2, hd2⟩)
    · rw [getD_set hls, h.nodup.mem_erase_iff]
      by_cases hfj : f = j
      · subst hfj
        simp [h.sub f hf]
      · simp only [if_neg hfj, h.listed j hj]
        constructor
        · rintro (⟨h1, h2⟩ | h1)
          · exact .inl ⟨h1, fun hm => h2 hm.2⟩
          · exact .inr h1
        · rintro (⟨h1, h2⟩ | h1)
          · exact .inl ⟨h1, fun hm => h2 ⟨Ne.symm hfj, hm⟩⟩
          · exact .inr h1

theorem ahead_sound : ∀ {ks : List Nat} {X : Option R}, ahead std P C an ops ks fr s X = some r → X = some r ∧ ∀ k ∈ ks, ∃ o m q, ops[k]? = some o ∧ opR std P C an fr s none o = .s m ∧ m = some q ∧ an.pure ≠ true
  | [], X, h => ⟨h, fun k hk => by simp at hk⟩
  | k :: ks, X, h => by
    unfold ahead at h
    split at h
    · rename_i o ho
      split at h
      · rename_i m hm
        split at h
        · simp at h
        · rename_i hp
          simp only [std, Option.bind_eq_some_iff] at h
          obtain ⟨q, h1, h2⟩ := h
          obtain ⟨h3, h4⟩ := ahead_sound h2
          refine ⟨h3, fun j hj => ?_⟩
          rcases List.mem_cons.1 hj with rfl | hj
          · exact ⟨o, m, q, ho, hm, h1, hp⟩
          · exact h4 j hj
      · simp at h
    · simp at h

/-- What the head of an order tells. -/
theorem draw_head {k : Nat} {c : Cls} {rs ks : List Nat} {rest : List Ord1} (hc : ¬ c % 8 ≤ 2) (hd : drawOk ops ((k, c, rs, ks) :: rest) lE = true) :
    k ∈ Region.ready .any ops lE ∧ (∀ j ∈ Region.ready .any ops lE, j = k ∨ j ∈ ks) ∧ (∀ j ∈ ks, j ≠ k ∧ j ∈ Region.ready .any ops lE ∧ soloOk ops j = true) ∧ (∀ j ∈ Region.ready .any ops (setAll lE ks), j = k) ∧ drawOk ops rest (lE.setIfInBounds k true) = true := by
  simp only [drawOk, Bool.and_eq_true, if_neg hc, List.contains_iff_mem, List.all_eq_true, Bool.or_eq_true, beq_iff_eq, bne_iff_ne, ne_eq] at hd
  obtain ⟨⟨⟨⟨h1, h2⟩, h3⟩, h4⟩, h5⟩ := hd
  exact ⟨h1, h2, fun j hj => ⟨(h3 j hj).1.1, (h3 j hj).1.2, (h3 j hj).2⟩, h4, h5⟩

theorem setAll_size : ∀ {ks : List Nat} {l : Array Bool}, (setAll l ks).size = l.size
  | [], _ => rfl
  | k :: ks, l => by unfold setAll; rw [setAll_size]; simp

theorem setAll_get : ∀ {ks : List Nat} {l : Array Bool} {j : Nat}, (∀ k ∈ ks, k < l.size) → ((setAll l ks).getD j false = true ↔ l.getD j false = true ∨ j ∈ ks)
  | [], _, _, _ => by simp [setAll]
  | k :: ks, l, j, h => by
    unfold setAll
    rw [setAll_get (fun q hq => by simpa using h q (by simp [hq])), getD_set (h k (by simp))]
    by_cases hkj : k = j
    · subst hkj; simp
    · simp [hkj, Ne.symm hkj]

/-- What may come next: what stood out; the order's head; new memory made ahead. -/
theorem DInv.next {k : Nat} {c : Cls} {rs ks : List Nat} {rest : List Ord1} (h : DInv P C an ops φ0 s0 w0 ((k, c, rs, ks) :: rest) lE l F E φ ψ s fr g a w) (hc : ¬ c % 8 ≤ 2) (hkE : ∀ e ∈ E, k ≠ e.1)
    (hd : drawOk ops ((k, c, rs, ks) :: rest) lE = true) {i : Nat} (hi : i ∈ Region.ready .any ops l) : i ∈ F ∨ i = k ∨ i ∈ ks := by
  obtain ⟨h1, h2, h3, h4, _⟩ := draw_head hc hd
  rcases h.ready' hi with hf | ⟨g1, g2, o, g3, g4⟩
  · exact .inl hf
  · by_cases hik : i ∈ ks
    · exact .inr (.inr hik)
    · refine .inr (.inl (h4 i (mem_ready.2 ⟨?_, o, g3, fun e he hb => ?_⟩)))
      · have hlt : i < ops.size := (Array.getElem?_eq_some_iff.1 g3).1
        have hks : ∀ j ∈ ks, j < lE.size := fun j hj => by
          obtain ⟨_, oj, hoj, _⟩ := mem_ready.1 (h3 j hj).2.1
          rw [h.esize]; exact (Array.getElem?_eq_some_iff.1 hoj).1
        rw [getD_ff (by rw [setAll_size, h.esize]; exact hlt)]
        rw [getD_ff (by rw [h.esize]; exact hlt)] at g1
        cases hx : (setAll lE ks).getD i false with
        | false => rfl
        | true =>
          rcases (setAll_get hks).1 hx with hx | hx
          · rw [g1] at hx; cases hx
          · exact absurd hx hik
      · have hks : ∀ j ∈ ks, j < lE.size := fun j hj => by
          obtain ⟨_, oj, hoj, _⟩ := mem_ready.1 (h3 j hj).2.1
          rw [h.esize]; exact (Array.getElem?_eq_some_iff.1 hoj).1
        refine (setAll_get hks).2 ?_
        rcases g4 e he hb with g5 | g5
        · exact .inl g5
        · obtain ⟨q, hq, hqe⟩ := List.mem_map.1 g5
          rcases h2 q.1 (h.ready q hq) with h6 | h6
          · exact absurd h6.symm (hkE q hq)
          · exact .inr (hqe ▸ h6)

theorem DInv.pend_step {s' : St} {fr' : Fr} {k : Nat} {c : Cls} {rs ks : List Nat} {rest : List Ord1} (h : DInv P C an ops φ0 s0 w0 ((k, c, rs, ks) :: rest) lE l F E φ ψ s fr g a w) {o : Oper} (ho : ops[k]? = some o) (hcl : codeOf P C an ops fr o = c ∨ (clsOf P C an ops fr o ≤ 2 ∧ c = 3))
    (hedge : ∀ f ∈ F, edgeOn o f ≠ true) (hkeep : Keeps fr fr' o.dst) (hloc : clsOf P C an ops fr o ≤ 4 ∨ clsOf P C an ops fr o = 6 → LocSame fr fr') (hlat : clsOf P C an ops fr o = 5 → ∀ t, t ≠ slotOf ops fr o → LocAt t fr fr')
    (hext : clsOf P C an ops fr o ≤ 3 ∨ clsOf P C an ops fr o = 5 ∨ clsOf P C an ops fr o = 6 → Ext s s')
    (hrs : ∀ j ∈ rs, ∃ o d v, ops[j]? = some o ∧ o.dst = some d ∧ PS P C an ops fr' s' o (.e (.val v)) ∧ lookE fr'.e d = some (.val v) ∧ lookG fr'.g d = none) {f : Nat} (hf : f ∈ F) :
    ∃ o x, ops[f]? = some o ∧ clsOf P C an ops fr' o ≤ 2 ∧ PS P C an ops fr' s' o x ∧ (∀ d, o.dst = some d → SlotIn fr' d x) ∧ selfClear ops o = true ∧ okAfter ops o f (codeOf P C an ops fr' o) rest = true := by
  obtain ⟨of, xf, h1, h2, h3, h4, h5, h6⟩ := h.pend f hf
  simp only [okAfter, ho] at h6
  rw [if_neg (by simp only [Bool.and_eq_true]; exact fun e => hedge f hf e.1)] at h6
  simp only [Bool.and_eq_true] at h6
  obtain ⟨⟨h6, h7⟩, h8⟩ := h6
  have hcr := clear_spec h6
  have hs : SameOn (of.looksAt ops) fr fr' := hkeep.same fun y hy => (hcr y hy).1
  have hcs := clsOf_same (P := P) (C := C) (an := an) hs
  have hcd := codeOf_same (P := P) (C := C) (an := an) hs
  simp only [Bool.or_eq_true, List.contains_iff_mem] at h7
  rcases h7 with h7 | h7
  · have hne2 : ∀ d, of.dst = some d → o.dst ≠ some d := fun d hd e => (hcr d e).2 hd
    rcases hcl with hcl | ⟨hle, hcl⟩
    rotate_left
    · exact ⟨of, xf, h1, by rw [hcs]; exact h2, PS_keep h2 hs (fun _ => LocSame.at (hloc (.inl (Nat.le_trans hle (by decide)))) _) (fun _ => hext (.inl (Nat.le_trans hle (by decide)))) h3, fun d hd => (h4 d hd).keep hkeep (hne2 d hd), h5, by rw [hcd]; exact h8⟩
    subst hcl
    simp only [pres, Bool.or_eq_true, Bool.and_eq_true, decide_eq_true_eq, code_mod, code_div] at h7
    refine ⟨of, xf, h1, by rw [hcs]; exact h2, PS_keep h2 hs (fun e => ?_) (fun e => hext ?_) h3, fun d hd => ?_, h5, by rw [hcd]; exact h8⟩
    · rw [e] at h7
      rcases h7 with (((h7 | h7) | h7) | h7) | h7
      · simp at h7
      · exact LocSame.at (hloc (.inl (Nat.le_trans h7 (by decide)))) _
      · exact LocSame.at (hloc (.inl (by rw [h7.2]; decide))) _
      · exact LocSame.at (hloc (.inr h7)) _
      · rcases h7 with ⟨h7, h9 | h9⟩
        · simp at h9
        · exact hlat h7 _ h9
    · rw [e] at h7
      rcases h7 with (((h7 | h7) | h7) | h7) | h7
      · simp at h7
      · exact .inl h7
      · simp at h7
      · exact .inr (.inr h7)
      · exact .inr (.inl h7.1)
    · exact (h4 d hd).keep hkeep (hne2 d hd)
  · obtain ⟨oj, d, v, g1, g2, g3, g4, g5⟩ := hrs f h7
    rw [h1] at g1
    simp only [Option.some.injEq] at g1
    subst g1
    refine ⟨of, _, h1, by rw [hcs]; exact h2, g3, fun d' hd' => ?_, h5, by rw [hcd]; exact h8⟩
    rw [g2] at hd'
    simp only [Option.some.injEq] at hd'
    subst hd'
    exact ⟨g4, g5⟩

/-- One that has its place comes up. -/
theorem DInv.fixed (hC : CtxOk P C) {k : Nat} {c : Cls} {rs ks : List Nat} {rest : List Ord1} (h : DInv P C an ops φ0 s0 w0 ((k, c, rs, ks) :: rest) lE l F E φ ψ s fr g a w) (hc : ¬ c % 8 ≤ 2) (hr : k ∈ Region.ready .any ops l) (hkF : k ∉ F) (hkE : ∀ e ∈ E, k ≠ e.1) (hns : Region.noSelect ops = true)
    (hd : drawOk ops ((k, c, rs, ks) :: rest) lE = true) (he : evDraw std P C an ops ((k, c, rs, ks) :: rest) fr s X K = some r) :
    ∃ o, ops[k]? = some o ∧ StepX P ops o a w (fun u w' => ∃ φ' ψ' s' fr' g', DInv P C an ops φ0 s0 w0 rest (lE.setIfInBounds k true) (l.setIfInBounds k true) F E φ' ψ' s' fr' g' (a.put o.dst u) w' ∧
      drawOk ops rest (lE.setIfInBounds k true) = true ∧ evDraw std P C an ops rest fr' s' X K = some r) (Fell an X r fr φ s w) := by
  obtain ⟨hrE, _, _, _, hd2⟩ := draw_head hc hd
  simp only [evDraw] at he
  cases ho : ops[k]? with
  | none => simp [ho] at he
  | some o =>
    simp only [ho] at he
    have hlt : k < ops.size := (Array.getElem?_eq_some_iff.1 ho).1
    split at he
    · rename_i hcl
      have he := (ahead_sound he).1
      refine ⟨o, rfl, StepX.same (g := g) (fun cs b => Region.noSelect_spec hns k o cs b ho) (fun t ht => h.agree t (fun hm => ?_) fun hm => ?_) ?_⟩
      · obtain ⟨f, hf, of, hof, hdf⟩ := mem_dsts.1 hm
        rcases h.apartO f hf of hof t hdf (k, _) List.mem_cons_self o ho with h1 | h1
        · exact h.edge_listed hr ho hf h1
        · exact h1 ht
      · obtain ⟨e, he', oe, hoe, hde⟩ := mem_dstsE.1 hm
        exact (Oper.apart_spec (h.solo he' hoe ho (hkE e he') (.inr hrE))).1 t hde ht
      · have hst := evOp_eff hC h.inv o he
        refine StepX.mono hst (fun u w' ⟨φ', ψ', s', fr', hk, hinv, hkeep, hloc, hlat, hext, haway, hle⟩ => ?_) fun _ _ h => h
        obtain ⟨hk, hrs⟩ := rechk_sound hk
        refine ⟨φ', ψ', s', fr', g.put o.dst u, ?_, hd2, hk⟩
        have hls : k < l.size := by rw [h.lsize]; exact hlt
        have hes : k < lE.size := by rw [h.esize]; exact hlt
        have hmono : ∀ j, l.getD j false = true → (l.setIfInBounds k true).getD j false = true := fun j hj => by rw [getD_set hls, hj]; simp
        have hmonoE : ∀ j, lE.getD j false = true → (lE.setIfInBounds k true).getD j false = true := fun j hj => by rw [getD_set hes, hj]; simp
        refine ⟨hinv, by simpa using h.size, by simpa using h.defers, fun t ht htE => put_agree h.size fun _ => h.agree t ht htE, by simpa using h.lsize, by simpa using h.esize, fun j hj => ?_, fun f hf => ?_, h.nodup,
          Chain.mono hmono (fun j hj => by simp at hj) h.chain, fun f hf => h.pend_step ho hcl (fun f hf => h.edge_listed hr ho hf) hkeep hloc hlat hext hrs hf, fun f hf of hof d hdf q hq => h.apartO f hf of hof d hdf q (by simp [hq]), h.apartF,
          fun f hf of hof e he' hb => hmonoE _ (h.predsF f hf of hof e he' hb), fun e he' => ready_set (h.ready e he') (Ne.symm (hkE e he')) hes, h.ndE, h.one,
          fun e he' => h.early_keep hns ho (.inr hrE) hle hkeep (fun t ht => put_keep ht) (fun t ht => put_keep ht) put_size (haway _) he' (hkE e he'), fun e he' oe hoe p hp hb => hmono _ (h.predsE e he' oe hoe p hp hb)⟩
        · rw [getD_set hls, getD_set hes]
          by_cases hkj : k = j
          · subst hkj; simp [hkF]
          · simp only [if_neg hkj]; exact h.listed j hj
        · rw [getD_set hes, h.sub f hf]; simp
    · simp at he

/-- The order comes to new memory that has been made ahead. -/
theorem DInv.account (hC : CtxOk P C) {k cb : Nat} {c : Cls} {rs ks : List Nat} {rest : List Ord1} (h : DInv P C an ops φ0 s0 w0 ((k, c, rs, ks) :: rest) lE l F E φ ψ s fr g a w) (hkE : (k, cb) ∈ E) (hns : Region.noSelect ops = true)
    (hd : drawOk ops ((k, c, rs, ks) :: rest) lE = true) (he : evDraw std P C an ops ((k, c, rs, ks) :: rest) fr s X K = some r) :
    ∃ φ' s' fr' g', DInv P C an ops φ0 s0 w0 rest (lE.setIfInBounds k true) l F (E.erase (k, cb)) φ' ψ s' fr' g' a w ∧ drawOk ops rest (lE.setIfInBounds k true) = true ∧ evDraw std P C an ops rest fr' s' X K = some r := by
  obtain ⟨o, d, kb, va, mk, blk, ho, hod, hso, hsa, hat, hblk, haw, hw0⟩ := h.early _ hkE
  simp only at ho hso hat hblk haw hw0
  obtain ⟨hsk, hself, _⟩ := solo_spec ho hso
  have hlt : k < ops.size := (Array.getElem?_eq_some_iff.1 ho).1
  have hd2 : drawOk ops rest (lE.setIfInBounds k true) = true := by
    simp only [drawOk, Bool.and_eq_true] at hd
    exact hd.2
  simp only [evDraw, ho] at he
  split at he
  · rename_i hcl
    have he := (ahead_sound he).1
    obtain ⟨hg, _⟩ := sa_guard hsk
    obtain ⟨m, hm1, hm2⟩ := hsa.abs s
    obtain ⟨l0, hl0, hB, hV⟩ := hsa.rel φ w cb (.refl _) hblk
    have hle := Phi.le_add h.inv.step.rel l0
    obtain ⟨dst, op, ty, pos, after, guard⟩ := o
    simp only at hg hod
    subst hg; subst hod
    simp only [evOp, hm1] at he
    split at he
    · simp at he
    · rename_i hp
      simp only [hm2, std, Option.bind_some] at he
      have hinv1 := h.inv.account hp (hB.of_same hle rfl) (hl0.symm ▸ haw) (hl0.symm ▸ hw0)
      obtain ⟨fr', hk, ⟨hkeep, hlo, _⟩, hinv⟩ := hinv1.put (x := .val (va s.n)) (d := some d) (u := mk cb) (hV _ _ (Phi.add_self _ _ _)) he
      obtain ⟨hk, hrs⟩ := rechk_sound hk
      have hdlt : d < a.tmps.size := by
        simp only [putK] at he
        split at he
        · rename_i hd; rw [h.size, h.inv.size]; exact hd
        · simp at he
      obtain ⟨hl1, hl2, _, hkF⟩ := h.inl hkE
      simp only at hl1 hl2 hkF
      have hes : k < lE.size := by rw [h.esize]; exact hlt
      have hmonoE : ∀ j, lE.getD j false = true → (lE.setIfInBounds k true).getD j false = true := fun j hj => by rw [getD_set hes, hj]; simp
      have hrE := h.ready _ hkE
      have hnd := h.ndE
      have hne : ∀ e ∈ E.erase (k, cb), e ∈ E ∧ k ≠ e.1 := by
        intro e he'
        have he2 := List.mem_of_mem_erase he'
        refine ⟨he2, fun hx => ?_⟩
        have hndE : E.Nodup := (List.pairwise_map.1 hnd).imp fun h e => h (by rw [e])
        have h3 := (hndE.mem_erase_iff.1 he').1
        have : ∀ {L : List (Nat × Nat)}, (L.map (·.1)).Nodup → ∀ x ∈ L, ∀ y ∈ L, x.1 = y.1 → x = y := by
          intro L
          induction L with
          | nil => intro _ x hx; simp at hx
          | cons q L ih =>
            intro hn x hx y hy hxy
            simp only [List.map_cons, List.nodup_cons] at hn
            rcases List.mem_cons.1 hx with rfl | hx'
            · rcases List.mem_cons.1 hy with rfl | hy
              · rfl
              · exact absurd (List.mem_map.2 ⟨y, hy, hxy.symm⟩) hn.1
            · rcases List.mem_cons.1 hy with rfl | hy
              · exact absurd (show y.1 ∈ L.map (·.1) from List.mem_map.2 ⟨x, hx', hxy⟩) hn.1
              · exact ih hn.2 x hx' y hy hxy
        exact h3 (this hnd e he2 (k, cb) hkE hx.symm)
      have hmemE : ∀ j, j ∈ E.map (·.1) ↔ j = k ∨ j ∈ (E.erase (k, cb)).map (·.1) := by
        intro j
        constructor
        · intro hm
          obtain ⟨e, he', rfl⟩ := List.mem_map.1 hm
          by_cases hx : e = (k, cb)
          · exact .inl (by rw [hx])
          · exact .inr (List.mem_map.2 ⟨e, (List.mem_erase_of_ne hx).2 he', rfl⟩)
        · rintro (rfl | hm)
          · exact List.mem_map.2 ⟨_, hkE, rfl⟩
          · obtain ⟨e, he', rfl⟩ := List.mem_map.1 hm
            exact List.mem_map.2 ⟨e, List.mem_of_mem_erase he', rfl⟩
      have hcls3 : clsOf P C an ops fr ⟨some d, op, ty, pos, after, none⟩ ≤ 3 ∨ clsOf P C an ops fr ⟨some d, op, ty, pos, after, none⟩ = 5 ∨ clsOf P C an ops fr ⟨some d, op, ty, pos, after, none⟩ = 6 → Ext s (s.new kb) := fun _ => ext_new s h.inv.step.rel.lt kb
      refine ⟨_, _, fr', g.put (some d) (mk cb), ⟨hinv, by simpa using h.size, h.defers, fun t ht htE => ?_, h.lsize, by simpa using h.esize, fun j hj => ?_, fun f hf => hmonoE _ (h.sub f hf), h.nodup, h.chain,
        fun f hf => h.pend_step ho hcl (fun f hf hx => ?_) hkeep (fun _ => .of_eq hlo) (fun _ t _ => LocSame.at (.of_eq hlo) t) hcls3 hrs hf, fun f hf of hof d hdf q hq => h.apartO f hf of hof d hdf q (by simp [hq]), h.apartF,
        fun f hf of hof e he' hb => hmonoE _ (h.predsF f hf of hof e he' hb), fun e he' => ready_set (h.ready e (hne e he').1) (Ne.symm (hne e he').2) hes, ?_, fun e he' e' he2 => h.one e (hne e he').1 e' (hne e' he2).1,
        fun e he' => h.early_keep hns ho (.inr hrE) hle hkeep (fun t ht => put_keep ht) (fun _ _ => rfl) rfl (fun hx ha => ⟨?_, rfl⟩) (hne e he').1 (hne e he').2, fun e he' => h.predsE e (hne e he').1⟩, hd2, hk⟩
      · by_cases htd : t = d
        · subst htd
          rw [hat hdlt]
          have : t < g.tmps.size := by rw [← h.size]; exact hdlt
          simp [Act.put, Array.getElem?_setIfInBounds, this]
        · rw [get_put_other htd]
          refine h.agree t ht fun hm => ?_
          obtain ⟨e, he', oe, hoe, hde⟩ := mem_dstsE.1 hm
          by_cases hx : e = (k, cb)
          · subst hx
            rw [ho] at hoe
            simp only [Option.some.injEq] at hoe
            subst hoe
            simp only [Option.some.injEq] at hde
            exact htd hde.symm
          · exact htE (mem_dstsE.2 ⟨e, (List.mem_erase_of_ne hx).2 he', oe, hoe, hde⟩)
      · rw [h.listed j hj, hmemE j, getD_set hes]
        by_cases hkj : k = j
        · subst hkj; simp [hkF]
        · simp [hkj, Ne.symm hkj]
      · have hfl := edge_pred (h.predsE _ hkE _ ho) hx
        obtain ⟨of, _, hof, _⟩ := h.pend f hf
        rcases (h.listed f (Array.getElem?_eq_some_iff.1 hof).1).1 hfl with h1 | h1
        · exact h1.2 hf
        · obtain ⟨e', he', rfl⟩ := List.mem_map.1 h1
          exact (h.inl he').2.2.2 hf
      · exact List.Nodup.sublist (List.Sublist.map _ List.erase_sublist) hnd
      · refine ⟨fun b k2 l2 g1 g2 => ?_, by rw [hlo]; exact ha.loc⟩
        rw [St.get_new] at g1
        split at g1
        · rename_i hb
          subst hb
          rw [Phi.add_self] at g2
          simp only [Option.some.injEq] at g2
          subst g2
          rw [hl0]
          exact fun hx => (hne e he').2 (congrArg Prod.fst (h.one _ hkE e (hne e he').1 hx))
        · obtain ⟨l3, f1, f2⟩ := h.inv.step.rel.blk b k2 g1
          have := hle b l3 f1
          rw [this] at g2
          simp only [Option.some.injEq] at g2
          subst g2
          exact ha.row b k2 l3 g1 f1
  · simp at he

/-- New memory is made ahead of its place. -/
theorem DInv.soon (hC : CtxOk P C) {k : Nat} {c : Cls} {rs ks : List Nat} {rest : List Ord1} (h : DInv P C an ops φ0 s0 w0 ((k, c, rs, ks) :: rest) lE l F E φ ψ s fr g a w) (hc : ¬ c % 8 ≤ 2) (hns : Region.noSelect ops = true)
    (hd : drawOk ops ((k, c, rs, ks) :: rest) lE = true) (he : evDraw std P C an ops ((k, c, rs, ks) :: rest) fr s X K = some r) {i : Nat} (hi : i ∈ ks) (hr : i ∈ Region.ready .any ops l) (hiF : i ∉ F) :
    ∃ o, ops[i]? = some o ∧ StepE P ops o a w fun u w' => ∃ cb, DInv P C an ops φ0 s0 w0 ((k, c, rs, ks) :: rest) lE (l.setIfInBounds i true) F ((i, cb) :: E) φ ψ s fr g (a.put o.dst u) w' := by
  obtain ⟨_, _, h3, _, _⟩ := draw_head hc hd
  obtain ⟨_, hrE, hso⟩ := h3 i hi
  simp only [evDraw] at he
  cases hok : ops[k]? with
  | none => simp [hok] at he
  | some ok =>
    simp only [hok] at he
    split at he
    · obtain ⟨o, m, q, ho, hm, hq, hp⟩ := (ahead_sound he).2 i hi
      obtain ⟨hsk, hself, hall⟩ := solo_spec ho hso
      obtain ⟨hg, d, hod⟩ := sa_guard hsk
      obtain ⟨kb, va, mk, blk, hsa⟩ := sa_of hsk h.inv.frel.toEnvRel hm hq
      have hlt : i < ops.size := (Array.getElem?_eq_some_iff.1 ho).1
      have hns' := fun cs b => Region.noSelect_spec hns i o cs b ho
      have hli : l.getD i false = false := by
        have := (mem_ready.1 hr).1
        rwa [getD_ff (by rw [h.lsize]; exact hlt)] at this
      have hiE : ∀ e ∈ E, i ≠ e.1 := fun e he' hx => by
        have := (h.inl he').2.1
        rw [← hx, hli] at this
        cases this
      have hpr : ∀ e ∈ o.after, Region.binds .any e = true → l.getD e.on false = true := by
        obtain ⟨_, o', ho', hall⟩ := mem_ready.1 hr
        rw [ho] at ho'
        simp only [Option.some.injEq] at ho'
        subst ho'
        exact hall
      have hapF : ∀ f ∈ F, ∀ of, ops[f]? = some of → o.apart ops of = true := fun f hf of hof => by
        refine hall f of (fun hx => hiF (hx ▸ hf)) hof (fun hx => ?_) (fun hx => ?_)
        · have := edge_pred (h.predsF f hf of hof) hx
          have h1 := (mem_ready.1 hrE).1
          rw [getD_ff (by rw [h.esize]; exact hlt), this] at h1
          cases h1
        · have := edge_pred hpr hx
          rcases (h.listed f (Array.getElem?_eq_some_iff.1 hof).1).1 this with h1 | h1
          · exact h1.2 hf
          · obtain ⟨e', he', rfl⟩ := List.mem_map.1 h1
            exact (h.inl he').2.2.2 hf
      have hagree : ∀ t ∈ o.looksAt ops, a.tmps[t]? = g.tmps[t]? := fun t ht => h.agree t (fun hm => by
          obtain ⟨f, hf, of, hof, hdf⟩ := mem_dsts.1 hm
          exact (Oper.apart_spec (hapF f hf of hof)).2.2 t hdf ht) fun hm => by
          obtain ⟨e, he', oe, hoe, hde⟩ := mem_dstsE.1 hm
          exact (Oper.apart_spec (h.solo he' hoe ho (hiE e he') (.inr hrE))).1 t hde ht
      have hex := exec_same hns' hagree
      have hls : i < l.size := by rw [h.lsize]; exact hlt
      have hmono : ∀ j, l.getD j false = true → (l.setIfInBounds i true).getD j false = true := fun j hj => by rw [getD_set hls, hj]; simp
      refine ⟨o, ho, ?_⟩
      unfold StepE
      rw [if_pos (by simp [Region.wanted, hg])]
      refine does_value (u := mk w.heap.size) (w' := w.alloc blk) (by rw [hex.1]; exact hsa.run w) ⟨w.heap.size, ?_⟩
      have hnew : (w.alloc blk).heap[w.heap.size]? = some blk := heap_alloc_new w _
      have hinv := h.inv.below (hsa.below w) (hsa.froz w)
      refine ⟨hinv, by simpa using h.size, by simpa using h.defers, fun t ht htE => ?_, by simpa using h.lsize, h.esize, fun j hj => ?_, h.sub, h.nodup, Chain.mono hmono (fun j hj => by simp at hj) h.chain, h.pend, h.apartO, h.apartF, h.predsF,
        fun e he' => ?_, ?_, fun e he' e' he2 hx => ?_, fun e he' => ?_, fun e he' oe hoe p hp hb => ?_⟩
      · have h1 : o.dst ≠ some t := fun hx => htE (mem_dstsE.2 ⟨(i, w.heap.size), by simp, o, ho, hx⟩)
        rw [put_keep h1]
        exact h.agree t ht fun hm => htE (by
          obtain ⟨e, he', x⟩ := mem_dstsE.1 hm
          exact mem_dstsE.2 ⟨e, by simp [he'], x⟩)
      · rw [getD_set hls, List.map_cons, List.mem_cons]
        by_cases hij : i = j
        · subst hij; simp
        · simp only [if_neg hij, h.listed j hj, Ne.symm hij, false_or]
      · rcases List.mem_cons.1 he' with rfl | he'
        · exact hrE
        · exact h.ready e he'
      · rw [List.map_cons, List.nodup_cons]
        exact ⟨fun hm => by
          obtain ⟨e, he', hx⟩ := List.mem_map.1 hm
          exact hiE e he' hx.symm, h.ndE⟩
      · have hold : ∀ e ∈ E, e.2 ≠ w.heap.size := fun e he' hx => by
          obtain ⟨_, _, _, _, _, _, _, _, _, _, _, h6, _⟩ := h.early e he'
          have := (Array.getElem?_eq_some_iff.1 h6).1
          omega
        rcases List.mem_cons.1 he' with rfl | he'
        · rcases List.mem_cons.1 he2 with rfl | he2
          · rfl
          · exact absurd hx.symm (hold e' he2)
        · rcases List.mem_cons.1 he2 with rfl | he2
          · exact absurd hx (hold e he')
          · exact h.one e he' e' he2 hx
      · rcases List.mem_cons.1 he' with rfl | he'
        · refine ⟨o, d, kb, va, mk, blk, ho, hod, hso, hsa, fun hdl => ?_, hnew, ⟨fun b k2 l2 g1 g2 hx => ?_, fun t cs hl hx => ?_⟩, h.inv.step.frm.size⟩
          · simp only [put_size] at hdl
            rw [hod]
            simp [Act.put, Array.getElem?_setIfInBounds, hdl]
          · obtain ⟨l3, f1, f2⟩ := h.inv.step.rel.blk b k2 g1
            rw [f1] at g2
            simp only [Option.some.injEq] at g2
            subst g2
            have := f2.lt
            simp only at hx
            omega
          · obtain ⟨c2, f1, f2⟩ := h.inv.frel.loc t cs hl
            rw [hx] at f1
            simp only [Option.some.injEq] at f1
            have := f2.lt
            omega
        · obtain ⟨oe, d', kb', va', mk', blk', g1, g2, g3, g4, g5, g6, g7, g8⟩ := h.early e he'
          have hap := Oper.apart_spec (h.solo he' g1 ho (hiE e he') (.inr hrE))
          refine ⟨oe, d', kb', va', mk', blk', g1, g2, g3, g4, fun hdl => ?_, ?_, g7, g8⟩
          · rw [put_keep fun hx => hap.2.1 d' g2 hx]
            exact g5 (by simpa using hdl)
          · rw [heap_alloc_old w _ _ (Array.getElem?_eq_some_iff.1 g6).1]
            exact g6
      · rcases List.mem_cons.1 he' with rfl | he'
        · rw [ho] at hoe
          simp only [Option.some.injEq] at hoe
          subst hoe
          exact hmono _ (hpr p hp hb)
        · exact hmono _ (h.predsE e he' oe hoe p hp hb)
    · simp at he

theorem DInv.settle (hC : CtxOk P C) (hns : Region.noSelect ops = true) : ∀ {ord : List Ord1} {lE : Array Bool} {F : List Nat} {E : List (Nat × Nat)} {φ : Phi} {s : St} {fr : Fr} {g : Act}, DInv P C an ops φ0 s0 w0 ord lE l F E φ ψ s fr g a w → drawOk ops ord lE = true → evDraw std P C an ops ord fr s X K = some r →
    ∃ ord' lE' F' E' φ' s' fr' g', DInv P C an ops φ0 s0 w0 ord' lE' l F' E' φ' ψ s' fr' g' a w ∧ drawOk ops ord' lE' = true ∧ evDraw std P C an ops ord' fr' s' X K = some r ∧ F'.length + ord'.length + E.length = F.length + ord.length + E'.length ∧
      (ord' = [] ∨ ∃ k c rs ks rest, ord' = (k, c, rs, ks) :: rest ∧ ¬ c % 8 ≤ 2 ∧ ∀ e ∈ E', k ≠ e.1)
  | [], lE, F, E, φ, s, fr, g, h, hd, he => ⟨[], lE, F, E, φ, s, fr, g, h, hd, he, rfl, .inl rfl⟩
  | (i, c, rs, ks) :: rest, lE, F, E, φ, s, fr, g, h, hd, he => by
    by_cases hE : ∃ e ∈ E, i = e.1
    · obtain ⟨⟨i', cb⟩, hm, hx⟩ := hE
      simp only at hx
      subst hx
      obtain ⟨φ', s', fr', g', h1, h2, h3⟩ := h.account hC hm hns hd he
      obtain ⟨o', l', F', E', f1, f2, f3, f4, k1, k2, k3, k4, k5⟩ := DInv.settle hC hns h1 h2 h3
      refine ⟨o', l', F', E', f1, f2, f3, f4, k1, k2, k3, ?_, k5⟩
      rw [List.length_erase_of_mem hm] at k4
      have : 0 < E.length := List.length_pos_of_mem hm
      simp; omega
    · have hE' : ∀ e ∈ E, i ≠ e.1 := fun e he' hx => hE ⟨e, he', hx⟩
      by_cases hc : c % 8 ≤ 2
      · obtain ⟨fr', g', h1, h2, h3⟩ := h.absorb hC hns hc hd he
        obtain ⟨o', l', F', E', f1, f2, f3, f4, k1, k2, k3, k4, k5⟩ := DInv.settle hC hns h1 h2 h3
        refine ⟨o', l', F', E', f1, f2, f3, f4, k1, k2, k3, ?_, k5⟩
        simp at k4 ⊢; omega
      · exact ⟨_, lE, F, E, φ, s, fr, g, h, hd, he, rfl, .inr ⟨i, c, rs, ks, rest, rfl, hc, hE'⟩⟩

theorem wpOp_step {o : Oper} {i : Nat} {X : Value → World → Prop} {Q : Exit → Act → World → Prop} {next : Act → World → Prop} (ho : ops[i]? = some o) (h : StepE P ops o a w X) (hn : ∀ u w', X u w' → next (a.put o.dst u) w') : wpOp P ops Q i next a w := by
  unfold Go.wpOp
  simp only [ho]
  exact h.wpOp hn

theorem wpOp_stepX {o : Oper} {i : Nat} {Y Z : Value → World → Prop} {Q : Exit → Act → World → Prop} {next : Act → World → Prop} (ho : ops[i]? = some o) (h : StepX P ops o a w Y Z) (hn : ∀ u w', Y u w' → next (a.put o.dst u) w')
    (hz : ∀ u w', Z u w' → Q (.panic [{ v := u, recovered := false }]) a w') : wpOp P ops Q i next a w := by
  unfold Go.wpOp
  simp only [ho]
  exact h.wpOp hn hz

theorem DInv.falls {Q : Exit → Act → World → Prop} (h : DInv P C an ops φ0 s0 w0 ord lE l F E φ ψ s fr g a w) (hX : Falls an φ0 s0 w0 X r Q) (hkp : keepOk an.keep ops = true) {u : Value} {w' : World} (hf : Fell an X r fr φ s w u w') : Q (.panic [{ v := u, recovered := false }]) a w' := by
  have hn : ∀ {F : List Nat} {t : Nat}, memT an.keep t = true → t ∉ dsts ops F := fun {F t} ht hm => by
    obtain ⟨f, _, o, ho, hd⟩ := mem_dsts.1 hm
    unfold keepOk at hkp
    have := List.all_eq_true.1 hkp o (by
      obtain ⟨hlt, he⟩ := Array.getElem?_eq_some_iff.1 ho
      rw [← he]
      exact Array.getElem_mem_toList hlt)
    rw [hd] at this
    simp [ht] at this
  exact hf.falls h.inv hX h.size (h.defers.trans h.inv.defers.symm) fun t ht => h.agree t (hn ht) (hn ht)

theorem drawOk_mem : ∀ {ord : List Ord1} {l : Array Bool}, drawOk ops ord l = true → ∀ k ∈ Region.ready .any ops l, k ∈ ord.map (·.1)
  | [], l, h, k, hk => by
    simp only [drawOk, List.isEmpty_iff] at h
    rw [h] at hk
    simp at hk
  | (i, c, rs, ks) :: rest, l, h, k, hk => by
    by_cases hki : k = i
    · simp [hki]
    · have hil : i < l.size := by
        have := drawOk_unlisted h (i, c, rs, ks) (by simp)
        exact lt_of_getD' this
      simp only [drawOk, Bool.and_eq_true] at h
      have := drawOk_mem h.2 k (ready_set hk hki hil)
      simp only [List.map_cons, List.mem_cons]
      exact .inr this

theorem nodup_len : ∀ {A B : List Nat}, A.Nodup → (∀ x ∈ A, x ∈ B) → A.length ≤ B.length
  | [], _, _, _ => by simp
  | x :: A, B, h, hs => by
    simp only [List.nodup_cons] at h
    have hx := hs x (by simp)
    have := nodup_len h.2 (B := B.erase x) fun y hy => (List.mem_erase_of_ne (fun e : y = x => h.1 (by rw [← e]; exact hy))).2 (hs y (by simp [hy]))
    rw [List.length_erase_of_mem hx] at this
    have : 0 < B.length := List.length_pos_of_mem hx
    simp; omega

theorem DInv.run (hC : CtxOk P C) (hns : Region.noSelect ops = true) {Q : Exit → Act → World → Prop} (hX : Falls an φ0 s0 w0 X r Q) (hkp : keepOk an.keep ops = true)
    (hK : ∀ φ' ψ' s' fr' a' w', InvA an φ0 s0 w0 φ' ψ' s' fr' a' w' → K fr' s' = some r → Q .normal a' w') :
    ∀ (fuel : Nat) {ord : List Ord1} {lE l : Array Bool} {F : List Nat} {E : List (Nat × Nat)} {φ : Phi} {ψ : Nat → Option Nat} {s : St} {fr : Fr} {g a : Act} {w : World}, DInv P C an ops φ0 s0 w0 ord lE l F E φ ψ s fr g a w → F.length + ord.length ≤ fuel + E.length →
      drawOk ops ord lE = true → evDraw std P C an ops ord fr s X K = some r → wpAny P .any ops Q fuel l a w := by
  have noE : ∀ {lE l : Array Bool} {F : List Nat} {E : List (Nat × Nat)} {φ : Phi} {ψ : Nat → Option Nat} {s : St} {fr : Fr} {g a : Act} {w : World}, DInv P C an ops φ0 s0 w0 [] lE l F E φ ψ s fr g a w → drawOk ops [] lE = true → E = [] := by
    intro lE l F E φ ψ s fr g a w h hd
    cases E with
    | nil => rfl
    | cons e E =>
      have := drawOk_mem hd e.1 (h.ready e (by simp))
      simp at this
  have fin : ∀ {lE l : Array Bool} {φ : Phi} {ψ : Nat → Option Nat} {s : St} {fr : Fr} {g a : Act} {w : World}, DInv P C an ops φ0 s0 w0 [] lE l [] [] φ ψ s fr g a w → evDraw std P C an ops [] fr s X K = some r → Q .normal a w := by
    intro lE l φ ψ s fr g a w h he
    have hag : a = g := by
      have h1 : a.tmps = g.tmps := Array.ext_getElem? fun t => h.agree t (by simp [dsts]) (by simp [dsts])
      have h2 : a.defers = g.defers := h.defers.trans h.inv.defers.symm
      cases a; cases g; simp_all
    rw [hag]
    exact hK _ _ _ _ _ _ h.inv he
  intro fuel
  induction fuel with
  | zero =>
    intro ord lE l F E φ ψ s fr g a w h hf hd he
    obtain ⟨ord, lE, F, E', φ, s, fr, g, h, hd, he, hlen, hhead⟩ := DInv.settle hC hns h hd he
    have hO : ord = [] := by
      rcases hhead with rfl | ⟨k, c, rs, ks, rest, rfl, hc, hkE⟩
      · rfl
      · exfalso
        have := nodup_len h.ndE (B := rest.map (·.1)) fun x hx => by
          obtain ⟨e, he', rfl⟩ := List.mem_map.1 hx
          have := drawOk_mem hd e.1 (h.ready e he')
          simp only [List.map_cons, List.mem_cons] at this
          rcases this with h1 | h1
          · exact absurd h1.symm (hkE e he')
          · exact h1
        simp at this hlen
        omega
    subst hO
    have hE := noE h hd
    subst hE
    have hF : F = [] := List.length_eq_zero_iff.1 (by simp at hlen; omega)
    subst hF
    refine ⟨?_, fin h he⟩
    apply List.eq_nil_iff_forall_not_mem.2
    intro k hk
    rcases h.ready' hk with h1 | ⟨g1, _, o, g3, g4⟩
    · simp at h1
    · have : k ∈ Region.ready .any ops lE := mem_ready.2 ⟨g1, o, g3, fun e he' hb => by
        rcases g4 e he' hb with g5 | g5
        · exact g5
        · simp at g5⟩
      have := drawOk_mem hd k this
      simp at this
  | succ fuel ih =>
    intro ord lE l F E φ ψ s fr g a w h hf hd he
    obtain ⟨ord, lE, F, E', φ, s, fr, g, h, hd, he, hlen, hhead⟩ := DInv.settle hC hns h hd he
    refine ⟨fun h0 => ?_, fun i hi => ?_⟩
    · cases F with
      | cons f F => have := h.first; rw [h0] at this; simp at this
      | nil =>
        rcases hhead with rfl | ⟨k, c, rs, ks, rest, rfl, hc, hkE⟩
        · have hE := noE h hd
          subst hE
          exact fin h he
        · exfalso
          have hr := (draw_head hc hd).1
          obtain ⟨g1, o, g2, g3⟩ := mem_ready.1 hr
          have hlt : k < ops.size := (Array.getElem?_eq_some_iff.1 g2).1
          have : k ∈ Region.ready .any ops l := mem_ready.2 ⟨by
            rw [getD_ff (by rw [h.lsize]; exact hlt)]
            rw [getD_ff (by rw [h.esize]; exact hlt)] at g1
            cases hl : l.getD k false with
            | false => rfl
            | true =>
              rcases (h.listed k hlt).1 hl with h1 | h1
              · rw [g1] at h1; cases h1.1
              · obtain ⟨e, he', hx⟩ := List.mem_map.1 h1
                exact absurd hx.symm (hkE e he'), o, g2, fun e he' hb => by
            have h3 := g3 e he' hb
            have hl3 := lt_of_getD h3
            rw [h.esize] at hl3
            exact (h.listed _ hl3).2 (.inl ⟨h3, by simp⟩)⟩
          rw [h0] at this
          simp at this
    · by_cases hiF : i ∈ F
      · obtain ⟨o, ho, hst⟩ := h.comes hC hiF hi hns
        refine wpOp_step ho hst fun u w' ⟨g', h'⟩ => ih h' ?_ hd he
        rw [List.length_erase_of_mem hiF]
        have : 0 < F.length := List.length_pos_of_mem hiF
        omega
      · rcases hhead with rfl | ⟨k, c, rs, ks, rest, rfl, hc, hkE⟩
        · exfalso
          have hE := noE h hd
          subst hE
          rcases h.ready' hi with h1 | ⟨g1, _, o, g3, g4⟩
          · exact hiF h1
          · have : i ∈ Region.ready .any ops lE := mem_ready.2 ⟨g1, o, g3, fun e he' hb => by
              rcases g4 e he' hb with g5 | g5
              · exact g5
              · simp at g5⟩
            have := drawOk_mem hd i this
            simp at this
        · rcases h.next hc hkE hd hi with h1 | rfl | h1
          · exact absurd h1 hiF
          · obtain ⟨o, ho, hst⟩ := h.fixed hC hc hi hiF hkE hns hd he
            refine wpOp_stepX ho hst (fun u w' ⟨φ', ψ', s', fr', g', h', hd', he'⟩ => ih h' ?_ hd' he') fun u w' hf => h.falls hX hkp hf
            simp at hlen
            omega
          · obtain ⟨o, ho, hst⟩ := h.soon hC hc hns hd he h1 hi hiF
            refine wpOp_step ho hst fun u w' ⟨cb, h'⟩ => ih h' ?_ hd he
            simp at hlen ⊢
            omega

/-- **A region that draws its order.** -/
theorem evDraw_sound (hC : CtxOk P C) (hm : P.follows .mixedOrders = true) {id : Nat} {Q : Exit → Act → World → Prop} (hns : Region.noSelect ops = true) (hlen : ord.length ≤ ops.size) (hd : drawOk ops ord (Array.replicate ops.size false) = true)
    (h : InvA an φ0 s0 w0 φ ψ s fr a w) (he : evDraw std P C an ops ord fr s X K = some r) (hX : Falls an φ0 s0 w0 X r Q) (hkp : keepOk an.keep ops = true)
    (hK : ∀ φ' ψ' s' fr' a' w', InvA an φ0 s0 w0 φ' ψ' s' fr' a' w' → K fr' s' = some r → Q .normal a' w') : (Code.region id ops true).wp P Q a w := by
  refine wp_region_any hm (DInv.run hC hns hX hkp hK ops.size (F := []) (E := []) (φ := φ) (ψ := ψ) (s := s) (fr := fr) (g := a) ⟨?_, rfl, h.defers, fun _ _ _ => rfl, by simp, by simp, fun j hj => ?_, fun f hf => by simp at hf, by simp, trivial, fun f hf => by simp at hf, fun f hf => by simp at hf, fun f hf => by simp at hf,
    fun f hf => by simp at hf, fun f hf => by simp at hf, by simp, fun f hf => by simp at hf, fun f hf => by simp at hf, fun f hf => by simp at hf⟩ (by simpa using hlen) hd he)
  · exact h.below ((Below.refl _ _).drew) fun _ _ => rfl
  · simp

end
end Go.Sim
set_option linter.unusedSimpArgs false
set_option linter.unusedVariables false
namespace Go.Sim
open Go.RowKit (Below)

theorem std_bd {α β : Type} (m : Option α) (f : α → Option β) : std.bd m f = m.bind f := rfl
theorem std_cnd {R : Type} (v : Value) (x y : Option R) : std.cnd v x y = cnd v x y := rfl
theorem std_it {R : Type} (f : (List Value → St → Option R) → List Value → St → Option R) (xs : List Value) (s : St) : std.it f xs s = iter f BIG xs s := rfl

def exOf : Ex → Exit
  | .normal => .normal
  | .exit i => .exit i
  | .ret => .ret
  | .pan _ => .outgrown

def Ex.pans : Ex → Bool
  | .pan _ => true
  | _ => false

theorem Ex.beq_eq : ∀ {x y : Ex}, y.pans = false → Ex.beq x y = true → x = y
  | .normal, .normal, _, _ => rfl
  | .exit i, .exit j, _, h => by simp only [Ex.beq, beq_iff_eq] at h; rw [h]
  | .ret, .ret, _, _ => rfl
  | .normal, .exit _, _, h => by simp [Ex.beq] at h
  | .normal, .ret, _, h => by simp [Ex.beq] at h
  | .exit _, .normal, _, h => by simp [Ex.beq] at h
  | .exit _, .ret, _, h => by simp [Ex.beq] at h
  | .ret, .normal, _, h => by simp [Ex.beq] at h
  | .ret, .exit _, _, h => by simp [Ex.beq] at h
  | .pan _, .normal, _, h => by simp [Ex.beq] at h
  | .pan _, .exit _, _, h => by simp [Ex.beq] at h
  | .pan _, .ret, _, h => by simp [Ex.beq] at h
  | _, .pan _, h, _ => by simp [Ex.pans] at h

theorem Ex.beq_pan : ∀ {x : Ex} {v : Value}, Ex.beq x (.pan v) = true → ∃ u, x = .pan u
  | .pan u, _, _ => ⟨u, rfl⟩
  | .normal, _, h => by simp [Ex.beq] at h
  | .exit _, _, h => by simp [Ex.beq] at h
  | .ret, _, h => by simp [Ex.beq] at h

theorem exIdx_spec {R : Type} (K : Ex → List KE → Option R) : ∀ {l : List (Ex × List KE)} {j i : Nat} {e : Ex} {ks : List KE}, exIdx l j e = some (i, ks) → j ≤ i ∧ ∃ e', Ex.beq e' e = true ∧ exK i K l j = K e' ks
  | [], _, _, _, _, h => by simp [exIdx] at h
  | (x, ks') :: r, j, i, e, ks, h => by
    simp only [exIdx] at h
    split at h
    · rename_i hb
      simp only [Option.some.injEq, Prod.mk.injEq] at h
      obtain ⟨rfl, rfl⟩ := h
      refine ⟨Nat.le_refl _, x, hb, ?_⟩
      cases r <;> simp [exK]
    · obtain ⟨h1, e', h3, h2⟩ := exIdx_spec K h
      refine ⟨by omega, e', h3, ?_⟩
      cases r with
      | nil => simp [exIdx] at h
      | cons y r =>
        simp only [exK]
        rw [if_neg (by omega)]
        exact h2

theorem exIdx_plain {R : Type} (K : Ex → List KE → Option R) {l : List (Ex × List KE)} {i : Nat} {e : Ex} {ks : List KE} (he : e.pans = false) (h : exIdx l 0 e = some (i, ks)) : exK i K l 0 = K e ks := by
  obtain ⟨_, e', h1, h2⟩ := exIdx_spec K h
  rw [h2, Ex.beq_eq he h1]

theorem exIdx_pan {R : Type} (K : Ex → List KE → Option R) {l : List (Ex × List KE)} {i : Nat} {v : Value} {ks : List KE} (h : exIdx l 0 (.pan v) = some (i, ks)) : ∃ u, exK i K l 0 = K (.pan u) ks := by
  obtain ⟨_, e', h1, h2⟩ := exIdx_spec K h
  obtain ⟨u, rfl⟩ := Ex.beq_pan h1
  exact ⟨u, h2⟩

/-- What a piece that is cut off hands on. -/
theorem cutK_plain {la : LoopAn} {e : Ex} {fr : Fr} {s : St} {r : Cut} (he : e.pans = false) (h : cutK la e fr s = some r) : ∃ i ks ys, exIdx la.exits 0 e = some (i, ks) ∧ vals fr ks = some ys ∧ r = (i, ys, s) := by
  simp only [cutK] at h
  split at h
  · rename_i i ks hi
    split at h
    · simp [Ex.pans] at he
    · split at h
      · rename_i ys hys
        simp only [Option.some.injEq] at h
        exact ⟨i, ks, ys, hi, hys, h.symm⟩
      · simp at h
  · simp at h

theorem cutK_pan {la : LoopAn} {x : Value} {fr : Fr} {s : St} {r : Cut} (h : cutK la (.pan x) fr s = some r) : ∃ i ks ys, exIdx la.exits 0 (.pan x) = some (i, ks) ∧ vals fr ks = some ys ∧ r = (i, x :: ys, s) := by
  simp only [cutK] at h
  split at h
  · rename_i i ks hi
    split at h
    · rename_i ys hys
      simp only [Option.some.injEq] at h
      exact ⟨i, ks, ys, hi, hys, h.symm⟩
    · simp at h
  · simp at h

section
variable {P : Program} {C : Ctx} {an : An} {φ0 φ : Phi} {ψ : Nat → Option Nat} {s0 s s' : St} {w0 w : World} {fr fr' : Fr} {a g : Act} {ops : Array Oper}

/-- What is left of a frame. -/
structure SubFr (fr fr' : Fr) : Prop where
  e : ∀ t x, lookE fr'.e t = some x → lookG fr.g t = none ∧ lookE fr.e t = some x
  l : ∀ t cs, lookL fr'.l t = some cs → lookL fr.l t = some cs
  g : fr'.g = []

theorem Inv.sub {p : Bool} {N : Nat × List Deferred} (h : Inv p N φ0 s0 w0 φ ψ s fr a w) (hs : SubFr fr fr') : Inv p N φ0 s0 w0 φ ψ s fr' a w := by
  refine ⟨h.step, ⟨⟨fun t x hx => h.frel.env t x (hs.e t x hx).2, fun t t' j gt b hl => ?_⟩, fun t cs hl => h.frel.loc t cs (hs.l t cs hl)⟩,
    ⟨fun t cs c hl => h.apart.new t cs c (hs.l t cs hl), fun t cs c b k l hl => h.apart.row t cs c b k l (hs.l t cs hl), fun t t' cs cs' c hne h1 h2 => h.apart.one t t' cs cs' c hne (hs.l t cs h1) (hs.l t' cs' h2)⟩, h.defers, h.size, h.pure⟩
  rw [hs.g] at hl
  simp [lookG] at hl

theorem Inv.noG {p : Bool} {N : Nat × List Deferred} {e : List (Nat × Ent)} {l : List (Nat × List Value)} {gs : List (Nat × Nat × Nat × Nat × Bool)} (h : Inv p N φ0 s0 w0 φ ψ s ⟨e, l, gs⟩ a w) : Inv p N φ0 s0 w0 φ ψ s ⟨e, l, []⟩ a w := by
  refine ⟨h.step, ⟨⟨h.frel.env, fun t t' j gt b hl => by simp [lookG] at hl⟩, h.frel.loc⟩, ⟨h.apart.new, h.apart.row, h.apart.one⟩, h.defers, h.size, h.pure⟩

theorem evE_tmp {t : Nat} {x : Ent} (h : evE fr none (.tmp t) = some x) : lookG fr.g t = none ∧ lookE fr.e t = some x := by
  simp only [evE] at h
  cases hl : lookG fr.g t with
  | none => rw [hl] at h; exact ⟨rfl, h⟩
  | some q => obtain ⟨t', j, gt, b⟩ := q; rw [hl] at h; simp at h

theorem mkK_spec {α : Type} (xs : List Value) : ∀ (ks : List KE) (vs : List Value) (i : Nat) (K : List (Nat × Ent) → List (Nat × List Value) → α), vals fr ks = some vs → (∀ j v, vs[j]? = some v → xs.getD (i + j) undef = v) →
    ∃ e l, mkK xs ks i K = K e l ∧ SubFr fr ⟨e, l, []⟩
  | [], vs, i, K, h, hx => ⟨[], [], rfl, fun t x hl => by simp [lookE] at hl, fun t cs hl => by simp [lookL] at hl, rfl⟩
  | .v t :: ks, vs, i, K, h, hx => by
    simp only [vals] at h
    split at h
    · rename_i v hv
      split at h
      · rename_i vs' hvs
        simp only [Option.some.injEq] at h
        subst h
        obtain ⟨e, l, h1, h2⟩ := mkK_spec xs ks vs' (i + 1) (fun e l => K ((t, .val (xs.getD i undef)) :: e) l) hvs fun j v hj => by
          have := hx (j + 1) v (by simpa using hj)
          rwa [show i + (j + 1) = i + 1 + j by omega] at this
        have h0 := hx 0 v rfl
        refine ⟨(t, .val v) :: e, l, by rw [show i + 0 = i by omega] at h0; rw [← h0]; exact h1, fun t' x hl => ?_, h2.l, rfl⟩
        simp only [lookE] at hl
        split at hl
        · rename_i ht
          simp only [Option.some.injEq] at hl
          subst hl; subst ht
          exact evE_tmp hv
        · exact h2.e t' x hl
      · simp at h
    · simp at h
  | .l t :: ks, vs, i, K, h, hx => by
    simp only [vals] at h
    split at h
    · rename_i cs hcs
      split at h
      · rename_i vs' hvs
        simp only [Option.some.injEq] at h
        subst h
        obtain ⟨e, l, h1, h2⟩ := mkK_spec xs ks vs' (i + 1) (fun e l => K e ((t, cellsA (xs.getD i undef)) :: l)) hvs fun j v hj => by
          have := hx (j + 1) v (by simpa using hj)
          rwa [show i + (j + 1) = i + 1 + j by omega] at this
        have h0 := hx 0 _ rfl
        rw [show i + 0 = i by omega] at h0
        refine ⟨e, (t, cs) :: l, by simp only [mkK]; rw [h1, h0]; rfl, h2.e, fun t' cs' hl => ?_, rfl⟩
        simp only [lookL] at hl
        split at hl
        · rename_i ht
          simp only [Option.some.injEq] at hl
          subst hl; subst ht
          exact hcs
        · exact h2.l t' cs' hl
      · simp at h
    · simp at h
  | .p t t' j' :: ks, vs, i, K, h, hx => by
    simp only [vals] at h
    split at h
    · rename_i u j hv
      split at h
      · rename_i e1
        split at h
        · rename_i e2
          subst e1; subst e2
          obtain ⟨e, l, h1, h2⟩ := mkK_spec xs ks vs i (fun e l => K ((t, .lp u j) :: e) l) h hx
          refine ⟨(t, .lp u j) :: e, l, h1, fun t'' x hl => ?_, h2.l, rfl⟩
          simp only [lookE] at hl
          split at hl
          · rename_i ht
            simp only [Option.some.injEq] at hl
            subst hl; subst ht
            exact evE_tmp hv
          · exact h2.e t'' x hl
        · simp at h
      · simp at h
    · simp at h

theorem mkK_sub {α : Type} {xs : List Value} {ks : List KE} (K : List (Nat × Ent) → List (Nat × List Value) → α) (h : vals fr ks = some xs) : ∃ e l, mkK xs ks 0 K = K e l ∧ SubFr fr ⟨e, l, []⟩ :=
  mkK_spec xs ks xs 0 K h fun j v hj => by
    rw [Nat.zero_add]
    simp [List.getD_eq_getElem?_getD, hj]

theorem mkK_sub1 {α : Type} {x : Value} {xs : List Value} {ks : List KE} (K : List (Nat × Ent) → List (Nat × List Value) → α) (h : vals fr ks = some xs) : ∃ e l, mkK (x :: xs) ks 1 K = K e l ∧ SubFr fr ⟨e, l, []⟩ :=
  mkK_spec (x :: xs) ks xs 1 K h fun j v hj => by
    rw [Nat.add_comm]
    simp [List.getD_eq_getElem?_getD, hj]

/-- A least number. -/
theorem least {p : Nat → Prop} (h : ∃ n, p n) : ∃ n, p n ∧ ∀ m, p m → n ≤ m := by
  obtain ⟨n, hn⟩ := h
  induction n using Nat.strongRecOn with
  | _ n ih =>
    by_cases hm : ∃ m, m < n ∧ p m
    · obtain ⟨m, h1, h2⟩ := hm
      exact ih m h1 h2
    · exact ⟨n, hn, fun m hp => Nat.le_of_not_lt fun hlt => hm ⟨m, hlt, hp⟩⟩

open Classical in
noncomputable def leastN (p : Nat → Prop) : Nat := if h : ∃ n, p n then Classical.choose (least h) else 0

theorem leastN_spec {p : Nat → Prop} (h : ∃ n, p n) : p (leastN p) ∧ ∀ m, p m → leastN p ≤ m := by
  unfold leastN
  rw [dif_pos h]
  exact Classical.choose_spec (least h)

/-- A loop whose rounds are counted down. -/
theorem wp_loop_down {c : Code} {Q : Exit → Act → World → Prop} (J : Nat → Act → World → Prop) (n : Nat) (h0 : J n a w) (hz : ∀ a w, ¬ J 0 a w)
    (round : ∀ n a w, J (n + 1) a w → c.wp P (Exit.then (J n) Q) a w) : (Code.loop c).wp P Q a w := by
  refine wp_loop (fun a w => ∃ n, J n a w) (fun a w => leastN fun n => J n a w) ⟨n, h0⟩ fun a w hI => ?_
  obtain ⟨h1, h2⟩ := leastN_spec hI
  generalize leastN (fun n => J n a w) = m at h1 h2 ⊢
  cases m with
  | zero => exact absurd h1 (hz a w)
  | succ m =>
    refine wp_mono (round m a w h1) fun e a' w' h => ?_
    cases e with
    | normal => exact ⟨⟨m, h⟩, Nat.lt_succ_of_le ((leastN_spec ⟨m, h⟩).2 m h)⟩
    | _ => exact h

theorem evC_sound (hC : CtxOk P C) (hm : P.follows .mixedOrders = true) : ∀ (c : Code) {R : Type} {fr : Fr} {s : St} {K : Ex → Fr → St → Option R} {r : R} {φ : Phi} {ψ : Nat → Option Nat} {a : Act} {w : World} {Q : Exit → Act → World → Prop},
    drawsOk an c = true → InvA an φ0 s0 w0 φ ψ s fr a w → evC std P C an c R fr s K = some r → Falls an φ0 s0 w0 (fun x fr => K (.pan x) (keepF an.keep fr)) r Q →
    (∀ e φ' ψ' s' fr' a' w', e.pans = false → InvA an φ0 s0 w0 φ' ψ' s' fr' a' w' → K e fr' s' = some r → Q (exOf e) a' w') → c.wp P Q a w
  | .skip, R, fr, s, K, r, φ, ψ, a, w, Q, hd, h, he, hP, hK => wp_skip (hK .normal _ _ _ _ _ _ rfl h he)
  | .label _, R, fr, s, K, r, φ, ψ, a, w, Q, hd, h, he, hP, hK => wp_label (hK .normal _ _ _ _ _ _ rfl h he)
  | .exit i, R, fr, s, K, r, φ, ψ, a, w, Q, hd, h, he, hP, hK => wp_exit (hK (.exit i) _ _ _ _ _ _ rfl h he)
  | .ret, R, fr, s, K, r, φ, ψ, a, w, Q, hd, h, he, hP, hK => wp_ret (hK .ret _ _ _ _ _ _ rfl h he)
  | .region id ops draw, R, ⟨e, l, gs⟩, s, K, r, φ, ψ, a, w, Q, hd, h, he, hP, hK => by
    simp only [evC] at he
    cases draw with
    | false =>
      simp only [Bool.false_eq_true, if_false] at he
      exact wp_region_list (evOps_sound hC hP ops.toList h.noG he fun φ' ψ' s' fr' a' w' => hK .normal φ' ψ' s' fr' a' w' rfl)
    | true =>
      simp only [if_true] at he
      cases ho : lookA an.draws id with
      | none => simp [ho] at he
      | some ord =>
        simp only [ho] at he
        simp only [drawsOk, ho, Bool.not_true, Bool.false_or, Bool.and_eq_true, decide_eq_true_eq] at hd
        exact evDraw_sound hC hm hd.1.2.1 hd.1.1 hd.2 h.noG he hP hd.1.2.2 fun φ' ψ' s' fr' a' w' => hK .normal φ' ψ' s' fr' a' w' rfl
  | .seq x y, R, fr, s, K, r, φ, ψ, a, w, Q, hd, h, he, hP, hK => by
    simp only [drawsOk, Bool.and_eq_true] at hd
    simp only [evC] at he
    split at he
    · rename_i la hla
      simp only [std_bd, std_it, Option.bind_eq_some_iff] at he
      obtain ⟨r1, h1, h2⟩ := he
      refine wp_seq (evC_sound hC hm x hd.1 h h1 (fun φ' ψ' s' fr' a' w' v u h' hv hk => ?_) fun e φ' ψ' s' fr' a' w' hpe h' hk => ?_)
      · obtain ⟨i, ks, ys, hi, hys, rfl⟩ := cutK_pan hk
        obtain ⟨v', h3⟩ := exIdx_pan (fun e ks => match e with
          | .normal => mkK (v :: ys) ks 0 fun e' l' => evC std P C an y R ⟨e', l', []⟩ s' K
          | .pan _ => mkK (v :: ys) ks 1 fun e' l' => K (.pan ((v :: ys).getD 0 undef)) (keepF an.keep ⟨e', l', []⟩) s'
          | e => mkK (v :: ys) ks 0 fun e' l' => K e ⟨e', l', []⟩ s') hi
        have h4 := h3.symm.trans h2
        obtain ⟨e', l', h5, h6⟩ := mkK_sub1 (x := v) (fun e' l' => K (.pan ((v :: ys).getD 0 undef)) (keepF an.keep ⟨e', l', []⟩) s') hys
        simp only [h5] at h4
        exact hP φ' ψ' s' ⟨e', l', []⟩ a' w' v u ((h'.sub h6).bare an.keep rfl rfl fun _ _ => rfl) hv h4
      · obtain ⟨i, ks, ys, hi, hys, rfl⟩ := cutK_plain hpe hk
        rw [exIdx_plain _ hpe hi] at h2
        cases e with
        | normal =>
          obtain ⟨e', l', h3, h4⟩ := mkK_sub (fun e' l' => evC std P C an y R ⟨e', l', []⟩ s' K) hys
          simp only [h3] at h2
          exact evC_sound hC hm y hd.2 (h'.sub h4) h2 hP hK
        | exit j =>
          obtain ⟨e', l', h3, h4⟩ := mkK_sub (fun e' l' => K (.exit j) ⟨e', l', []⟩ s') hys
          simp only [h3] at h2
          exact hK _ _ _ _ _ _ _ rfl (h'.sub h4) h2
        | ret =>
          obtain ⟨e', l', h3, h4⟩ := mkK_sub (fun e' l' => K .ret ⟨e', l', []⟩ s') hys
          simp only [h3] at h2
          exact hK _ _ _ _ _ _ _ rfl (h'.sub h4) h2
        | pan v => simp [Ex.pans] at hpe
    · refine wp_seq (evC_sound hC hm x hd.1 h he hP fun e φ' ψ' s' fr' a' w' hpe h' hk => ?_)
      cases e with
      | normal => exact evC_sound hC hm y hd.2 h' hk hP hK
      | exit i => exact hK _ _ _ _ _ _ _ rfl h' hk
      | ret => exact hK _ _ _ _ _ _ _ rfl h' hk
      | pan v => simp [Ex.pans] at hpe
  | .cond c x y, R, fr, s, K, r, φ, ψ, a, w, Q, hd, h, he, hP, hK => by
    simp only [drawsOk, Bool.and_eq_true] at hd
    simp only [evC] at he
    split at he
    · rename_i v hv
      have hvr := evV_sound h.frel.toEnvRel hv
      simp only [std_cnd, cnd] at he
      split at he
      · exact wp_cond (t := true) (isB hvr) (evC_sound hC hm x hd.1 h he hP hK)
      · exact wp_cond (t := false) (isB hvr) (evC_sound hC hm y hd.2 h he hP hK)
      · simp at he
    · simp at he
  | .block id x, R, fr, s, K, r, φ, ψ, a, w, Q, hd, h, he, hP, hK => by
    simp only [drawsOk] at hd
    simp only [evC] at he
    refine wp_block (evC_sound hC hm x hd h he hP fun e φ' ψ' s' fr' a' w' hpe h' hk => ?_)
    cases e with
    | normal => exact hK _ _ _ _ _ _ _ rfl h' hk
    | ret => exact hK _ _ _ _ _ _ _ rfl h' hk
    | pan v => simp [Ex.pans] at hpe
    | exit i =>
      simp only [exOf, Exit.inBlock]
      simp only at hk
      split
      · rename_i hi
        rw [if_pos hi] at hk
        exact hK .normal _ _ _ _ _ _ rfl h' hk
      · rename_i hi
        rw [if_neg hi] at hk
        exact hK (.exit i) _ _ _ _ _ _ rfl h' hk
  | .loop x, R, fr, s, K, r, φ, ψ, a, w, Q, hd, h, he, hP, hK => by
    simp only [drawsOk] at hd
    simp only [evC] at he
    split at he
    · rename_i la hla
      split at he
      · rename_i xs hxs
        simp only [std_bd, std_it, Option.bind_eq_some_iff] at he
        obtain ⟨r1, h1, h2⟩ := he
        generalize hF : (fun (rec : List Value → St → Option Cut) (xs : List Value) (s : St) => mkK xs la.ks 0 fun e' l' => evC std P C an x Cut ⟨e', l', []⟩ s fun e fr s => match e with
          | .normal => match vals fr la.ks with
            | some ys => rec ys s
            | none => none
          | e => cutK la e fr s) = F at h1
        refine wp_loop_down (fun n a w => ∃ φ ψ s fr xs, InvA an φ0 s0 w0 φ ψ s fr a w ∧ vals fr la.ks = some xs ∧ iter F n xs s = some r1) BIG ⟨φ, ψ, s, fr, xs, h, hxs, h1⟩
          (fun a w ⟨φ, ψ, s, fr, xs, _, _, h3⟩ => by simp [iter] at h3) fun n a w ⟨φ, ψ, s, fr, xs, h, hxs, h3⟩ => ?_
        simp only [iter] at h3
        rw [← hF] at h3
        obtain ⟨e', l', h4, h5⟩ := mkK_sub (fun e' l' => evC std P C an x Cut ⟨e', l', []⟩ s fun e fr s => match e with
          | .normal => match vals fr la.ks with
            | some ys => iter F n ys s
            | none => none
          | e => cutK la e fr s) hxs
        simp only [hF] at h3
        rw [h4] at h3
        refine evC_sound hC hm x hd (h.sub h5) h3 (fun φ' ψ' s' fr' a' w' v u h' hv hk => ?_) fun e φ' ψ' s' fr' a' w' hpe h' hk => ?_
        · obtain ⟨i, ks, ys, hi, hys, rfl⟩ := cutK_pan hk
          obtain ⟨v', h6⟩ := exIdx_pan (fun e ks => match e with
            | .pan _ => mkK (v :: ys) ks 1 fun e' l' => K (.pan ((v :: ys).getD 0 undef)) (keepF an.keep ⟨e', l', []⟩) s'
            | e => mkK (v :: ys) ks 0 fun e' l' => K e ⟨e', l', []⟩ s') hi
          have h7 := h6.symm.trans h2
          obtain ⟨e', l', h8, h9⟩ := mkK_sub1 (x := v) (fun e' l' => K (.pan ((v :: ys).getD 0 undef)) (keepF an.keep ⟨e', l', []⟩) s') hys
          simp only [h8] at h7
          exact hP φ' ψ' s' ⟨e', l', []⟩ a' w' v u ((h'.sub h9).bare an.keep rfl rfl fun _ _ => rfl) hv h7
        · have key : ∀ e, e.pans = false → cutK la e fr' s' = some r1 → Q (exOf e) a' w' := by
            intro e hpe hk
            obtain ⟨i, ks, ys, hi, hys, rfl⟩ := cutK_plain hpe hk
            rw [exIdx_plain _ hpe hi] at h2
            obtain ⟨e', l', h6, h7⟩ := mkK_sub (fun e' l' => K e ⟨e', l', []⟩ s') hys
            cases e with
            | pan v => simp [Ex.pans] at hpe
            | _ =>
              simp only [h6] at h2
              exact hK _ _ _ _ _ _ _ rfl (h'.sub h7) h2
          cases e with
          | normal =>
            simp only at hk
            split at hk
            · rename_i ys hys
              exact ⟨φ', ψ', s', fr', ys, h', hys, hk⟩
            · simp at hk
          | exit i => exact key _ rfl hk
          | ret => exact key _ rfl hk
          | pan v => simp [Ex.pans] at hpe
      · simp at he
    · simp at he

end
end Go.Sim
set_option linter.unusedSimpArgs false
set_option linter.unusedVariables false
namespace Go.Sim
open Go.RowKit (Below)

section
variable {P : Program} {C : Ctx} {an : An} {φ0 φ : Phi} {ψ : Nat → Option Nat} {s0 s s' : St} {w0 w : World} {fr fr' : Fr} {a g : Act} {ops : Array Oper}

theorem argsK_spec {α : Type} : ∀ (args : List Value) (i : Nat) (K : List (Nat × Ent) → α), ∃ e, argsK args i K = K e ∧ ∀ t x, lookE e t = some x → ∃ j v, t = i + j ∧ args[j]? = some v ∧ x = .val v
  | [], i, K => ⟨[], rfl, fun t x h => by simp [lookE] at h⟩
  | v :: r, i, K => by
    obtain ⟨e, h1, h2⟩ := argsK_spec r (i + 1) fun e => K ((i, .val v) :: e)
    refine ⟨_, h1, fun t x h => ?_⟩
    simp only [lookE] at h
    split at h
    · rename_i ht
      simp only [Option.some.injEq] at h
      exact ⟨0, v, by omega, rfl, h.symm⟩
    · obtain ⟨j, u, h3, h4, h5⟩ := h2 t x h
      exact ⟨j + 1, u, by omega, by simpa using h4, h5⟩

theorem argsK_use {R : Type} {r : R} {args : List Value} {K : List (Nat × Ent) → Option R} (h : argsK args 0 K = some r) : ∃ e, K e = some r ∧ ∀ t x, lookE e t = some x → ∃ j v, t = 0 + j ∧ args[j]? = some v ∧ x = .val v := by
  obtain ⟨e, h1, h2⟩ := argsK_spec args 0 K
  exact ⟨e, h1 ▸ h, h2⟩

def resOne (tmps : Array Value) : ResultVar → Sem Value
  | .tmp t => pure (tmps.getD t undef)
  | .cell a t => do loadVar t (← asAddr (tmps.getD a undef))

theorem load_addr {t : TypeId} {x y : Value} (h : (Instr.loadAt t x).run P w = .ok y w) (hx : ∃ b, x = .pointer (some b)) : (do loadVar t (← asAddr x) : Sem Value).run P w = .ok y w := by
  obtain ⟨b, rfl⟩ := hx
  simp only [Instr.loadAt, Instr.sureAddr, Sem.run_bind, Sem.run_pure, Result.andThen_ok] at h
  simp only [asAddr, Sem.run_bind, Sem.run_pure, Result.andThen_ok]
  exact h

theorem loadAt_addr {t : TypeId} {x y : Value} (h : (Instr.loadAt t x).run P w = .ok y w) : ∃ b, x = .pointer (some b) := by
  cases x with
  | pointer b =>
    cases b with
    | some b => exact ⟨b, rfl⟩
    | none => simp [Instr.loadAt, Instr.sureAddr] at h
  | _ => simp [Instr.loadAt, Instr.sureAddr] at h

theorem resK_spec {R : Type} {r : R} (h : InvA an φ0 s0 w0 φ ψ s fr a w) : ∀ (l : List ResultVar) (K : List Value → Option R), resK std P fr s l K = some r →
    ∃ vs us, K vs = some r ∧ VsRel φ vs us ∧ (l.mapM (resOne a.tmps)).run P w = .ok us w
  | [], K, he => ⟨[], [], he, .nil, by simp⟩
  | .tmp t :: l, K, he => by
    simp only [resK] at he
    split at he
    · rename_i v hv
      obtain ⟨vs, us, h1, h2, h3⟩ := resK_spec h l _ he
      have hr : VRel φ v (a.tmps.getD t undef) := evE_sound h.frel.toEnvRel (og := none) (fun _ _ e => by simp at e) hv
      refine ⟨v :: vs, _ :: us, h1, .cons hr h2, ?_⟩
      simp only [List.mapM_cons, resOne, Sem.run_bind, Sem.run_pure, Result.andThen_ok, h3]
    · simp at he
  | .cell c t :: l, K, he => by
    have fin : ∀ {x x' : Value}, (Instr.loadAt t (a.tmps.getD c undef)).run P w = .ok x' w → VRel φ x x' → resK std P fr s l (fun vs => K (x :: vs)) = some r →
        ∃ vs us, K vs = some r ∧ VsRel φ vs us ∧ ((ResultVar.cell c t :: l).mapM (resOne a.tmps)).run P w = .ok us w := by
      intro x x' h1 h2 h3
      obtain ⟨vs, us, h4, h5, h6⟩ := resK_spec h l _ h3
      refine ⟨x :: vs, x' :: us, h4, .cons h2 h5, ?_⟩
      have h7 := load_addr h1 (loadAt_addr h1)
      simp only [List.mapM_cons, resOne]
      rw [Sem.run_bind, h7]
      simp only [Result.andThen_ok, Sem.run_bind, h6, Sem.run_pure]
    simp only [resK] at he
    split at he
    · rename_i n v h1 h2 h3
      simp only [std_bd, Option.bind_eq_some_iff] at he
      obtain ⟨x, h4, he⟩ := he
      have hr : VRel φ v (a.tmps.getD c undef) := evE_sound h.frel.toEnvRel (og := none) (fun _ _ e => by simp at e) h3
      obtain ⟨x', h5, h6⟩ := load_agg w h.step.rel h1 h2 hr h4
      exact fin h5 h6 he
    · rename_i n v h1 h2 h3
      simp only [std_bd, Option.bind_eq_some_iff] at he
      obtain ⟨x, h4, he⟩ := he
      have hr : VRel φ v (a.tmps.getD c undef) := evE_sound h.frel.toEnvRel (og := none) (fun _ _ e => by simp at e) h3
      obtain ⟨x', h5, h6⟩ := load_one w h.step.rel h1 hr h4
      exact fin h5 h6 he
    · rename_i agg n t' j h1 h2 h3
      obtain ⟨b, g1, g2⟩ : ∃ b, ψ t' = some b ∧ a.tmps.getD c undef = .pointer (some ⟨b, j, none⟩) := evE_sound h.frel.toEnvRel (og := none) (fun _ _ e => by simp at e) h3
      split at he
      · rename_i cs hcs
        obtain ⟨b', f1, f2⟩ := h.frel.loc t' cs hcs
        rw [g1] at f1
        simp only [Option.some.injEq] at f1
        subst f1
        cases agg with
        | true =>
          simp only [std_bd, Option.bind_eq_some_iff] at he
          obtain ⟨x, h4, he⟩ := he
          obtain ⟨x', h5, h6⟩ := load_agg_l w f2 h1 h2 h4
          exact fin (by rw [g2]; exact h5) h6 he
        | false =>
          simp only [std_bd, Option.bind_eq_some_iff] at he
          obtain ⟨x, h4, he⟩ := he
          obtain ⟨x', h5, h6⟩ := load_one_l w f2 h1 h4
          exact fin (by rw [g2]; exact h5) h6 he
      · simp at he
    · simp at he

theorem results_run {fn : Func} {tmps : Array Value} {us : List Value} (h : (fn.results.toList.mapM (resOne tmps)).run P w = .ok us w) : (results fn tmps).run P w = .ok (oneV us) w := by
  have key : ∀ g : ResultVar → Sem Value, (∀ x, g x = resOne tmps x) → (do let vs ← fn.results.mapM g; pure (if h : vs.size = 1 then vs[0] else .tuple vs) : Sem Value).run P w = .ok (oneV us) w := by
    intro g hg
    have : g = resOne tmps := funext hg
    rw [this, Array.mapM_eq_mapM_toList]
    simp only [Sem.run_bind, Sem.run_map, h, Result.andThen_ok, Sem.run_pure]
    cases us with
    | nil => rfl
    | cons u us => cases us <;> rfl
  exact key _ fun x => by cases x <;> rfl

theorem oneV_rel {vs us : List Value} (h : VsRel φ vs us) : VRel φ (oneV vs) (oneV us) := by
  cases h with
  | nil => exact .tuple .nil
  | cons h t =>
    cases t with
    | nil => exact h
    | cons h' t' => exact .tuple (.cons h (.cons h' t'))

/-- A function carried out. -/
theorem evFR_sound (hC : CtxOk P C) (hm : P.follows .mixedOrders = true) {f : FuncId} {fn : Func} {c : Code} (hf : P.funcs[f]? = some fn) (hb : fn.body = some c) (hd : drawsOk an c = true)
    (hD : an.D = []) {R : Type} {r : R} {X K : Value → St → Option R} {args args' : List Value} {E : Ending → World → Prop} (hr : Rel φ s w) (ha : VsRel φ args args') (he : evFR R std P C an fn args s X K = some r)
    (hX : ∀ v u φ' ψ' s' fr' a' w', InvA an φ s w φ' ψ' s' fr' a' w' → VRel φ' v u → X v s' = some r → E (.panicked [{ v := u, recovered := false }]) w')
    (hK : ∀ v u φ' ψ' s' fr' a' w', InvA an φ s w φ' ψ' s' fr' a' w' → VRel φ' v u → K v s' = some r → E (.returned u) w') : Calls P f ⟨args'⟩ w E := by
  simp only [evFR, hb] at he
  split at he
  · rename_i hn
    obtain ⟨hn1, hn2⟩ := hn
    obtain ⟨e, he, h2⟩ := argsK_use he
    have hlen := ha.length
    have hinv : InvA an φ s w φ (fun _ => none) s ⟨e, [], []⟩ ⟨⟨args'⟩ ++ Array.replicate (fn.ntmps - args'.length) undef, []⟩ w := by
      refine ⟨.refl hr, ⟨⟨fun t x hx => ?_, fun t t' j gt b hl => by simp [lookG] at hl⟩, fun t cs hl => by simp [lookL] at hl⟩, ⟨fun t cs c hl => by simp [lookL] at hl, fun t cs c b k l hl => by simp [lookL] at hl, fun t t' cs cs' c _ hl => by simp [lookL] at hl⟩, hD.symm, ?_, fun _ => ⟨rfl, rfl, .refl _ _⟩⟩
      · obtain ⟨j, v, rfl, h3, rfl⟩ := h2 t x hx
        obtain ⟨u, h4, h5⟩ := ha.get h3
        have hj : j < args'.length := (List.getElem?_eq_some_iff.1 h4).1
        refine ⟨by simp; omega, ?_⟩
        rw [Nat.zero_add]
        have : (⟨args'⟩ ++ Array.replicate (fn.ntmps - args'.length) undef : Array Value).getD j undef = u := by
          rw [Array.getD_eq_getD_getElem?, Array.getElem?_append_left (by simpa using hj)]
          simp [h4]
        rw [this]
        exact h5
      · simp; omega
    refine calls_of_wp hf hb ?_
    have hsz : (⟨args'⟩ : Array Value).size = args'.length := by simp
    rw [hsz]
    refine evC_sound hC hm c hd hinv he (fun φ' ψ' s' fr' a' w' v u h' hv hk => ⟨h'.defers.trans hD, hX v u φ' ψ' s' _ a' w' h' hv hk⟩) fun e φ' ψ' s' fr' a' w' hpe h' hk => ?_
    have fin : resK std P fr' s' fn.results.toList (fun l => K (oneV l) s') = some r → a'.defers = [] ∧ ∃ v, (results fn a'.tmps).run P w' = .ok v w' ∧ E (.returned v) w' := by
      intro hk
      obtain ⟨vs, us, h3, h4, h5⟩ := resK_spec h' _ _ hk
      exact ⟨h'.defers.trans hD, _, results_run h5, hK _ _ _ _ _ _ _ _ h' (oneV_rel h4) h3⟩
    cases e with
    | normal => exact fin hk
    | ret => exact fin hk
    | exit i => simp at hk
    | pan v => simp [Ex.pans] at hpe
  · simp at he

/-- Are the regions that draw their order in order? -/
def fnDraws (an : An) (fn : Func) : Bool :=
  match fn.body with
  | some c => an.D.isEmpty && drawsOk an c
  | none => false

theorem evF_ok (hC : CtxOk P C) (hm : P.follows .mixedOrders = true) {f : FuncId} {fn : Func} (hf : P.funcs[f]? = some fn) (hd : fnDraws an fn = true) : FnOk P f (.st fun args s => evF std P C an fn args s) := by
  unfold fnDraws at hd
  split at hd
  · rename_i c hb
    intro φ s w args args' r s' hr ha he
    simp only [Bool.and_eq_true, List.isEmpty_iff] at hd
    exact evFR_sound hC hm hf hb hd.2 hd.1 hr ha he (fun v u φ' ψ' s'' fr' a' w' _ _ hk => by simp at hk) fun v u φ' ψ' s'' fr' a' w' h' hv hk => by
      simp only [Option.some.injEq, Prod.mk.injEq] at hk
      obtain ⟨rfl, rfl⟩ := hk
      exact ⟨φ', h'.step, hv⟩
  · simp at hd

theorem evP_ok (hC : CtxOk P C) (hm : P.follows .mixedOrders = true) {f : FuncId} {fn : Func} (hf : P.funcs[f]? = some fn) (hd : fnDraws an fn = true) : FnOk P f (.pn fun args s => evP std P C an fn args s) := by
  unfold fnDraws at hd
  split at hd
  · rename_i c hb
    intro φ s w args args' b r s' hr ha he
    simp only [Bool.and_eq_true, List.isEmpty_iff] at hd
    exact evFR_sound hC hm hf hb hd.2 hd.1 hr ha he (fun v u φ' ψ' s'' fr' a' w' h' hv hk => by
      simp only [Option.some.injEq, Prod.mk.injEq] at hk
      obtain ⟨rfl, rfl, rfl⟩ := hk
      exact ⟨rfl, φ', u, rfl, h'.step, hv⟩) fun v u φ' ψ' s'' fr' a' w' h' hv hk => by
      simp only [Option.some.injEq, Prod.mk.injEq] at hk
      obtain ⟨rfl, rfl, rfl⟩ := hk
      exact ⟨rfl, φ', h'.step, hv⟩
  · simp at hd

theorem evG_ok (hC : CtxOk P C) (hm : P.follows .mixedOrders = true) {f : FuncId} {fn : Func} (hf : P.funcs[f]? = some fn) (hd : fnDraws an fn = true) : FnOk P f (.rd fun args s => evG std P C an fn args s) := by
  unfold fnDraws at hd
  split at hd
  · rename_i c hb
    intro φ s w args args' r hr ha he
    simp only [evG] at he
    split at he
    · rename_i hp
      simp only [Bool.and_eq_true, List.isEmpty_iff] at hd
      exact evFR_sound hC hm hf hb hd.2 hd.1 hr ha he (fun v u φ' ψ' s'' fr' a' w' _ _ hk => by simp at hk) fun v u φ' ψ' s'' fr' a' w' h' hv hk => by
        simp only [Option.some.injEq] at hk
        subst hk
        obtain ⟨e1, e2, e3⟩ := h'.pure hp
        exact ⟨⟨e3, Froz.of_below e3⟩, e2 ▸ hv⟩
    · simp at he
  · simp at hd

theorem FnOk.st_of {f : FuncId} {v v' : List Value → St → Option (Value × St)} (h : FnOk P f (.st v)) (he : ∀ args s r, v' args s = some r → v args s = some r) : FnOk P f (.st v') :=
  fun φ s w args args' r s' hr ha hx => h φ s w args args' r s' hr ha (he _ _ _ hx)

theorem FnOk.rd_of {f : FuncId} {v v' : List Value → St → Option Value} (h : FnOk P f (.rd v)) (he : ∀ args s r, v' args s = some r → v args s = some r) : FnOk P f (.rd v') :=
  fun φ s w args args' r hr ha hx => h φ s w args args' r hr ha (he _ _ _ hx)

theorem FnOk.pn_of {f : FuncId} {v v' : List Value → St → Option (Bool × Value × St)} (h : FnOk P f (.pn v)) (he : ∀ args s r, v' args s = some r → v args s = some r) : FnOk P f (.pn v') :=
  fun φ s w args args' b r s' hr ha hx => h φ s w args args' b r s' hr ha (he _ _ _ hx)

/-- What never panics is one that may. -/
def pnOf (v : List Value → St → Option (Value × St)) : List Value → St → Option (Bool × Value × St) := fun args s => (v args s).map fun r => (true, r.1, r.2)

/-- What is known to return, where it does. -/
theorem FnOk.st_of_pn {f : FuncId} {v : List Value → St → Option (Bool × Value × St)} {v' : List Value → St → Option (Value × St)} (h : FnOk P f (.pn v)) (he : ∀ args s r, v' args s = some r → v args s = some (true, r.1, r.2)) : FnOk P f (.st v') :=
  fun φ s w args args' r s' hr ha hx => Calls.mono (h φ s w args args' true r s' hr ha (he _ _ _ hx)) fun e w' h => by
    cases e with
    | returned u => exact h.2
    | panicked c => exact absurd h.1 (by simp)
    | outgrown => exact h.elim

theorem CtxOk.nil : CtxOk P [] := ⟨fun f x h => by simp [lookC] at h, fun f x h => by simp [lookC] at h⟩

theorem CtxOk.cons {f : FuncId} {x : Fn'} (h : FnOk P f x) (hc : callOk P f = true) (hC : CtxOk P C) : CtxOk P ((f, x) :: C) := by
  constructor
  · intro g y hl
    simp only [lookC] at hl
    split at hl
    · rename_i e
      simp only [Option.some.injEq] at hl
      subst hl; subst e
      exact h
    · exact hC.ok g y hl
  · intro g y hl
    simp only [lookC] at hl
    split at hl
    · rename_i e
      subst e
      exact hc
    · exact hC.run g y hl

end
end Go.Sim
set_option linter.unusedSimpArgs false
set_option linter.unusedVariables false
namespace Go.Sim
open Go.RowKit (Below)

def Blk.frz : Blk → Blk
  | .row n rows _ => .row n rows true
  | .map es _ => .map es true

def frzH : List (Nat × Blk) → List (Nat × Blk)
  | [] => []
  | (i, k) :: r => (i, k.frz) :: frzH r

/-- Nothing that stands there may be turned. -/
def St.frz (s : St) : St := ⟨frzH s.h, s.n⟩

theorem getH_frz : ∀ (h : List (Nat × Blk)) (b : Nat), getH (frzH h) b = (getH h b).map Blk.frz
  | [], _ => rfl
  | (i, k) :: r, b => by
    simp only [frzH, getH]
    split
    · rfl
    · exact getH_frz r b

theorem St.get_frz (s : St) (b : Nat) : s.frz.get b = (s.get b).map Blk.frz := getH_frz s.h b

theorem Rel.frz {φ : Phi} {s : St} {w : World} (h : Rel φ s w) : Rel φ s.frz w := by
  refine ⟨h.fresh, fun b k hk => ?_, fun b c k k' l l' h1 h2 hne hro => ?_⟩
  · rw [St.get_frz, Option.map_eq_some_iff] at hk
    obtain ⟨k0, h0, rfl⟩ := hk
    obtain ⟨l, h1, h2⟩ := h.blk b k0 h0
    refine ⟨l, h1, ?_⟩
    cases k0 with
    | row sz rows ro =>
      obtain ⟨g1, g2, cs, e, fz, g3, g4, g5, _⟩ := h2
      exact ⟨g1, g2, cs, e, fz, g3, g4, g5, fun e => by cases e⟩
    | map es ro => exact h2
  · rw [St.get_frz, Option.map_eq_some_iff] at h1
    obtain ⟨k0, _, rfl⟩ := h1
    cases k0 <;> simp [Blk.frz, Blk.ro] at hro

mutual
/-- Does a value name nothing but what stands there? -/
def oldV (s : St) : Value → Bool
  | .pointer (some ⟨b, _, _⟩) => (s.get b).isSome
  | .slice (some ⟨b, _, _⟩) _ _ => (s.get b).isSome
  | .map (some b) => (s.get b).isSome
  | .agg ⟨l⟩ => oldVs s l
  | .tuple ⟨l⟩ => oldVs s l
  | .iface _ v => oldV s v
  | .func _ ⟨a⟩ ⟨c⟩ => oldVs s a && oldVs s c
  | _ => true
def oldVs (s : St) : List Value → Bool
  | [] => true
  | v :: r => oldV s v && oldVs s r
end

mutual
theorem VRel.old {φ φ' : Phi} {s : St} (hb : ∀ b, (s.get b).isSome = true → φ b = φ' b) : ∀ {v u : Value}, VRel φ' v u → oldV s v = true → VRel φ v u
  | _, _, .bool b, _ => .bool b
  | _, _, .int k n, _ => .int k n
  | _, _, .str x, _ => .str x
  | _, _, .pnil, _ => .pnil
  | _, _, .ptr h, ho => .ptr (by rw [hb _ (by simpa only [oldV] using ho)]; exact h)
  | _, _, .snil, _ => .snil
  | _, _, .slice h h1 h2 h3 h4, ho => .slice (by rw [hb _ (by simpa only [oldV] using ho)]; exact h) h1 h2 h3 h4
  | _, _, .mnil, _ => .mnil
  | _, _, .map h, ho => .map (by rw [hb _ (by simpa only [oldV] using ho)]; exact h)
  | _, _, .nilF, _ => .nilF
  | _, _, .func fn h1 h2, ho => by
    simp only [oldV, Bool.and_eq_true] at ho
    exact .func fn (VsRel.old hb h1 ho.1) (VsRel.old hb h2 ho.2)
  | _, _, .nilI, _ => .nilI
  | _, _, .iface t h, ho => .iface t (VRel.old hb h (by simpa only [oldV] using ho))
  | _, _, .agg h h1, ho => .agg (VsRel.old hb h (by simpa only [oldV] using ho)) h1
  | _, _, .tuple h, ho => .tuple (VsRel.old hb h (by simpa only [oldV] using ho))
theorem VsRel.old {φ φ' : Phi} {s : St} (hb : ∀ b, (s.get b).isSome = true → φ b = φ' b) : ∀ {l l' : List Value}, VsRel φ' l l' → oldVs s l = true → VsRel φ l l'
  | _, _, .nil, _ => .nil
  | _, _, .cons h t, ho => by
    simp only [oldVs, Bool.and_eq_true] at ho
    exact .cons (VRel.old hb h ho.1) (VsRel.old hb t ho.2)
end

/-- What it answers, as a reading. -/
def frzR (m : St → Option (Value × St)) (s : St) : Option Value :=
  (m s.frz).bind fun r => if oldV s r.1 then some r.1 else none

theorem FnOk.frozen {P : Program} {f : FuncId} {F : List Value → St → Option (Value × St)} (h : FnOk P f (.st F)) : FnOk P f (.rd fun args s => frzR (F args) s) := by
  intro φ s w args args' r hr ha hg
  unfold frzR at hg
  rw [Option.bind_eq_some_iff] at hg
  obtain ⟨⟨v, s'⟩, h1, h2⟩ := hg
  simp only at h2
  split at h2
  · rename_i ho
    cases h2
    refine (h φ s.frz w args args' _ s' hr.frz ha h1).mono fun e w' he => ?_
    cases e with
    | returned u =>
      obtain ⟨φ', hst, hv⟩ := he
      have hb : Below w.heap.size w w' := ⟨hst.frm.os, hst.frm.tape, hst.frm.output, hst.frm.size, fun c hc => hst.frm.old c hc fun b k l g1 g2 _ => by
        rw [St.get_frz, Option.map_eq_some_iff] at g1
        obtain ⟨k0, _, rfl⟩ := g1
        cases k0 <;> simp [Blk.frz, Blk.ro] at g2⟩
      refine ⟨⟨hb, Froz.of_below hb⟩, VRel.old (s := s) (fun b hsome => ?_) hv ho⟩
      cases hg : s.get b with
      | none => rw [hg] at hsome; simp at hsome
      | some k =>
        obtain ⟨l, g1, _⟩ := hr.blk b k hg
        rw [g1, hst.ext b l g1]
    | _ => exact he.elim
  · simp at h2

/-- A reading known by what it answers. -/
theorem FnOk.rd_of' {P : Program} {f : FuncId} {g g' : List Value → St → Option Value} (h : FnOk P f (.rd g)) (he : ∀ args s r, g' args s = some r → g args s = some r) : FnOk P f (.rd g') :=
  fun φ s w args args' r hr ha hg => h φ s w args args' r hr ha (he args s r hg)

/-- What it answers; its garbage is dropped where the answer names nothing new. -/
def dropR (m : St → Option (Value × St)) (s : St) : Option (Value × St) :=
  match m s.frz with
  | some (v, _) => if oldV s v then some (v, s) else m s
  | none => m s

theorem FnOk.dropped {P : Program} {f : FuncId} {F : List Value → St → Option (Value × St)} (h : FnOk P f (.st F)) : FnOk P f (.st fun args s => dropR (F args) s) := by
  intro φ s w args args' r s' hr ha hg
  change dropR (F args) s = some (r, s') at hg
  unfold dropR at hg
  split at hg
  · rename_i v s2 h1
    split at hg
    · rename_i ho
      simp only [Option.some.injEq, Prod.mk.injEq] at hg
      obtain ⟨rfl, rfl⟩ := hg
      refine (FnOk.frozen h φ s w args args' v hr ha (by simp [frzR, h1, ho])).mono fun e w' he => ?_
      cases e with
      | returned u => exact ⟨φ, Step.of_below hr he.1.1 he.1.2, he.2⟩
      | _ => exact he.elim
    · exact h φ s w args args' r s' hr ha hg
  · exact h φ s w args args' r s' hr ha hg

theorem FnOk.st_of' {P : Program} {f : FuncId} {F F' : List Value → St → Option (Value × St)} (h : FnOk P f (.st F)) (he : ∀ args s r, F' args s = some r → F args s = some r) : FnOk P f (.st F') :=
  fun φ s w args args' r s' hr ha hg => h φ s w args args' r s' hr ha (he args s _ hg)

def sameRows : List (List Value) → List (List Value) → Bool
  | [], [] => true
  | a :: r, b :: q => sameVs a b && sameRows r q
  | _, _ => false

theorem sameRows_eq : ∀ {a b : List (List Value)}, sameRows a b = true → a = b
  | [], [], _ => rfl
  | [], _ :: _, h => by simp [sameRows] at h
  | _ :: _, [], h => by simp [sameRows] at h
  | a :: r, b :: q, h => by
    simp only [sameRows, Bool.and_eq_true] at h
    rw [sameVs_eq h.1, sameRows_eq h.2]

def sameH : List (Nat × Blk) → List (Nat × Blk) → Bool
  | [], [] => true
  | (i, .row n r o) :: a, (j, .row m q p) :: b => decide (i = j) && decide (n = m) && sameRows r q && (o == p) && sameH a b
  | _, _ => false

theorem sameH_eq : ∀ {a b : List (Nat × Blk)}, sameH a b = true → a = b
  | [], [], _ => rfl
  | [], _ :: _, h => by simp [sameH] at h
  | (i, .row n r o) :: a, [], h => by simp [sameH] at h
  | (i, .map e o) :: a, b, h => by cases b <;> simp [sameH] at h
  | (i, .row n r o) :: a, (j, .map e p) :: b, h => by simp [sameH] at h
  | (i, .row n r o) :: a, (j, .row m q p) :: b, h => by
    simp only [sameH, Bool.and_eq_true, decide_eq_true_eq, beq_iff_eq] at h
    obtain ⟨⟨⟨⟨rfl, rfl⟩, h3⟩, rfl⟩, h5⟩ := h
    rw [sameRows_eq h3, sameH_eq h5]

def sameSt (s t : St) : Bool := sameH s.h t.h && decide (s.n = t.n)

theorem sameSt_eq {s t : St} (h : sameSt s t = true) : s = t := by
  simp only [sameSt, Bool.and_eq_true, decide_eq_true_eq] at h
  cases s; cases t
  simp only at h
  rw [sameH_eq h.1, h.2]

/-- At one input another way of reckoning. -/
def atOne (A : List Value) (S0 : St) (F G : List Value → St → Option (Value × St)) (args : List Value) (s : St) : Option (Value × St) :=
  match sameVs args A && sameSt s S0 with
  | true => G args s
  | false => F args s

theorem atOne_ne {A args : List Value} {S0 s : St} {F G : List Value → St → Option (Value × St)} (h : (sameVs args A && sameSt s S0) = false) : Sim.atOne A S0 F G args s = F args s := by
  unfold Sim.atOne
  rw [h]

theorem FnOk.atOne {P : Program} {f : FuncId} {F G : List Value → St → Option (Value × St)} {A : List Value} {S0 : St} (h : FnOk P f (.st F)) (hl : F A S0 = G A S0) : FnOk P f (.st (Sim.atOne A S0 F G)) :=
  h.st_of' fun args s r hr => by
    unfold Sim.atOne at hr
    split at hr
    · rename_i hs
      simp only [Bool.and_eq_true] at hs
      have h1 := sameVs_eq hs.1
      have h2 := sameSt_eq hs.2
      subst h1; subst h2
      rw [hl]; exact hr
    · exact hr

/-- The means, with loops left open. -/
def stdIt (it : {R : Type} → ((List Value → St → Option R) → List Value → St → Option R) → List Value → St → Option R) : Sig := ⟨Option.bind, gd, gdS, gdU, cnd, it⟩

theorem iter_succ {X R : Type} (f : (X → St → Option R) → X → St → Option R) (k : Nat) (x : X) (s : St) : iter f (k + 1) x s = f (iter f k) x s := rfl

/-- A loop that counts up to a bound and changes nothing else. -/
theorem iter_count {R : Type} {f : (List Value → St → Option R) → List Value → St → Option R} {xs : Nat → List Value} {s : St} {r : Option R} {N : Nat} (hs : ∀ rec j, j < N → f rec (xs j) s = rec (xs (j + 1)) s) (hl : ∀ rec, f rec (xs N) s = r) :
    ∀ (d j m : Nat), j + d = N → iter f (m + d + 1) (xs j) s = r
  | 0, j, m, h => by
    rw [iter_succ, show j = N by omega, hl]
  | d + 1, j, m, h => by
    rw [iter_succ, hs _ j (by omega), show m + (d + 1) = m + d + 1 by omega]
    exact iter_count hs hl d (j + 1) m (by omega)

theorem lss_i64 {a b : Int} (h : a < b) : bin .lss (.int .i64 a) (.int .i64 b) = some (.bool true) := by
  simp [bin, binOp, run0, Op.intCmp, h]
  rfl

theorem iter8 {X R : Type} (f : (X → St → Option R) → X → St → Option R) (k : Nat) (x : X) (s : St) : iter f (k + 8) x s = f (f (f (f (f (f (f (f (iter f k)))))))) x s := rfl

theorem wrap_i64 {n : Int} (h1 : -9223372036854775808 ≤ n) (h2 : n < 9223372036854775808) : IntKind.i64.wrap n = n := by
  simp [IntKind.wrap, IntKind.signed, IntKind.bits]
  omega

theorem add_i64 {a b : Int} (h1 : -9223372036854775808 ≤ a + b) (h2 : a + b < 9223372036854775808) : bin .add (.int .i64 a) (.int .i64 b) = some (.int .i64 (a + b)) := by
  have := wrap_i64 h1 h2
  show some (Value.int .i64 (IntKind.i64.wrap (a + b))) = _
  rw [this]

end Go.Sim
set_option linter.unusedSimpArgs false
set_option linter.unusedVariables false
namespace Go.Sim
open Go.RowKit (Below)

mutual
/-- A value, its blocks' numbers moved. -/
def shV (n : Nat → Nat) : Value → Value
  | .pointer (some ⟨b, i, j⟩) => .pointer (some ⟨n b, i, j⟩)
  | .slice (some ⟨b, i, j⟩) l c => .slice (some ⟨n b, i, j⟩) l c
  | .map (some b) => .map (some (n b))
  | .agg ⟨l⟩ => .agg ⟨shVs n l⟩
  | .tuple ⟨l⟩ => .tuple ⟨shVs n l⟩
  | .iface t v => .iface t (shV n v)
  | .func f ⟨a⟩ ⟨c⟩ => .func f ⟨shVs n a⟩ ⟨shVs n c⟩
  | v => v
def shVs (n : Nat → Nat) : List Value → List Value
  | [] => []
  | v :: r => shV n v :: shVs n r
end

def shRows (n : Nat → Nat) : List (List Value) → List (List Value)
  | [] => []
  | r :: q => shVs n r :: shRows n q

def shEs (n : Nat → Nat) : List (Value × Value) → List (Value × Value)
  | [] => []
  | (k, v) :: q => (k, shV n v) :: shEs n q

def shB (n : Nat → Nat) : Blk → Blk
  | .row sz rows ro => .row sz (shRows n rows) ro
  | .map es ro => .map (shEs n es) ro

def shH (n : Nat → Nat) : List (Nat × Blk) → List (Nat × Blk) → List (Nat × Blk)
  | [], h => h
  | (i, k) :: r, h => (n i, shB n k) :: shH n r h

/-- What a closed call answers, and the memory that it makes, behind another. -/
def movedW (m : Option (Value × St)) : List Value → St → Option (Value × St)
  | [], s => match m with
    | some (v, s0) => some (shV (s.n + ·) v, ⟨shH (s.n + ·) s0.h s.h, s.n + s0.n⟩)
    | none => none
  | _, _ => none

theorem shVs_length {n : Nat → Nat} : ∀ {l : List Value}, (shVs n l).length = l.length
  | [] => rfl
  | v :: l => by simp [shVs, shVs_length (l := l)]

theorem oneC_sh {n : Nat → Nat} {v : Value} : oneC (shV n v) = oneC v := by
  cases v with
  | pointer a => cases a with
    | none => rfl
    | some a => obtain ⟨_, _, _⟩ := a; rfl
  | slice a _ _ => cases a with
    | none => rfl
    | some a => obtain ⟨_, _, _⟩ := a; rfl
  | map a => cases a <;> rfl
  | agg l => obtain ⟨l⟩ := l; rfl
  | tuple l => obtain ⟨l⟩ := l; rfl
  | func f a c => obtain ⟨a⟩ := a; obtain ⟨c⟩ := c; rfl
  | _ => rfl

theorem oneCs_sh {n : Nat → Nat} : ∀ {l : List Value}, oneCs (shVs n l) = oneCs l
  | [] => rfl
  | v :: l => by simp [shVs, oneCs, oneC_sh, oneCs_sh (l := l)]

mutual
theorem VRel.sh {φ φ' : Phi} {n : Nat → Nat} (h : ∀ b l, φ b = some l → φ' (n b) = some l) : ∀ {v u : Value}, VRel φ v u → VRel φ' (shV n v) u
  | _, _, .bool b => .bool b
  | _, _, .int k n => .int k n
  | _, _, .str x => .str x
  | _, _, .pnil => .pnil
  | _, _, .ptr h1 => .ptr (h _ _ h1)
  | _, _, .snil => .snil
  | _, _, .slice h1 h2 h3 h4 h5 => .slice (h _ _ h1) h2 h3 h4 h5
  | _, _, .mnil => .mnil
  | _, _, .map h1 => .map (h _ _ h1)
  | _, _, .nilF => .nilF
  | _, _, .func fn h1 h2 => .func fn (VsRel.sh h h1) (VsRel.sh h h2)
  | _, _, .nilI => .nilI
  | _, _, .iface t h1 => .iface t (VRel.sh h h1)
  | _, _, .agg h1 h2 => .agg (VsRel.sh h h1) (by rw [oneCs_sh]; exact h2)
  | _, _, .tuple h1 => .tuple (VsRel.sh h h1)
theorem VsRel.sh {φ φ' : Phi} {n : Nat → Nat} (h : ∀ b l, φ b = some l → φ' (n b) = some l) : ∀ {l l' : List Value}, VsRel φ l l' → VsRel φ' (shVs n l) l'
  | _, _, .nil => .nil
  | _, _, .cons h1 t => .cons (VRel.sh h h1) (VsRel.sh h t)
end

mutual
theorem plain_sh {n : Nat → Nat} : ∀ {v : Value}, plainV v = true → shV n v = v
  | .bool _, _ => rfl
  | .int _ _, _ => rfl
  | .string _, _ => rfl
  | .pointer none, _ => rfl
  | .pointer (some ⟨_, _, _⟩), h => by simp [plainV] at h
  | .slice none _ _, _ => rfl
  | .slice (some ⟨_, _, _⟩) _ _, h => by simp [plainV] at h
  | .map none, _ => rfl
  | .map (some _), h => by simp [plainV] at h
  | .nilFunc, _ => rfl
  | .func fn ⟨a⟩ ⟨c⟩, h => by
    simp only [plainV, Bool.and_eq_true] at h
    simp only [shV, plains_sh h.1, plains_sh h.2]
  | .nilIface, _ => rfl
  | .iface t v, h => by
    simp only [plainV] at h
    simp only [shV, plain_sh h]
  | .agg ⟨l⟩, h => by
    simp only [plainV, Bool.and_eq_true] at h
    simp only [shV, plains_sh h.1]
  | .tuple ⟨l⟩, h => by
    simp only [plainV] at h
    simp only [shV, plains_sh h]
  | .float _ _, _ => rfl
  | .complex _ _ _, _ => rfl
  | .chan _, _ => rfl
theorem plains_sh {n : Nat → Nat} : ∀ {l : List Value}, plainVs l = true → shVs n l = l
  | [], _ => rfl
  | v :: l, h => by
    simp only [plainVs, Bool.and_eq_true] at h
    simp only [shVs, plain_sh h.1, plains_sh h.2]
end

theorem shVs_get {n : Nat → Nat} : ∀ {l : List Value} {i : Nat}, (shVs n l)[i]? = (l[i]?).map (shV n)
  | [], i => by simp [shVs]
  | v :: l, 0 => by simp [shVs]
  | v :: l, i + 1 => by simpa [shVs] using shVs_get (l := l) (i := i)

theorem shRows_length {n : Nat → Nat} : ∀ {l : List (List Value)}, (shRows n l).length = l.length
  | [] => rfl
  | v :: l => by simp [shRows, shRows_length (l := l)]

theorem shRows_get {n : Nat → Nat} : ∀ {l : List (List Value)} {i : Nat}, (shRows n l)[i]? = (l[i]?).map (shVs n)
  | [], i => by simp [shRows]
  | v :: l, 0 => by simp [shRows]
  | v :: l, i + 1 => by simpa [shRows] using shRows_get (l := l) (i := i)

theorem shEs_length {n : Nat → Nat} : ∀ {l : List (Value × Value)}, (shEs n l).length = l.length
  | [] => rfl
  | (k, v) :: l => by simp [shEs, shEs_length (l := l)]

theorem shEs_get {n : Nat → Nat} : ∀ {l : List (Value × Value)} {i : Nat}, (shEs n l)[i]? = (l[i]?).map fun q => (q.1, shV n q.2)
  | [], i => by simp [shEs]
  | (k, v) :: l, 0 => by simp [shEs]
  | (k, v) :: l, i + 1 => by simpa [shEs] using shEs_get (l := l) (i := i)

theorem BRel.sh {φ φ' : Phi} {n : Nat → Nat} {l : Loc} {k : Blk} {w : World} (h : ∀ b l, φ b = some l → φ' (n b) = some l) (hb : BRel φ l k w) : BRel φ' l (shB n k) w := by
  cases k with
  | row sz rows ro =>
    obtain ⟨g1, g2, cs, e, fz, g3, g4, g5, g6⟩ := hb
    refine ⟨g1, by rw [shRows_length]; exact g2, cs, e, fz, g3, g4, fun i r hr => ?_, g6⟩
    rw [shRows_get, Option.map_eq_some_iff] at hr
    obtain ⟨r0, hr0, rfl⟩ := hr
    obtain ⟨f1, f2, f3⟩ := g5 i r0 hr0
    refine ⟨by rw [shVs_length]; exact f1, by rw [oneCs_sh]; exact f2, fun j v hv => ?_⟩
    rw [shVs_get, Option.map_eq_some_iff] at hv
    obtain ⟨v0, hv0, rfl⟩ := hv
    obtain ⟨u, e1, e2⟩ := f3 j v0 hv0
    exact ⟨u, e1, e2.sh h⟩
  | map es ro =>
    obtain ⟨es', clk, g1, g2, g3⟩ := hb
    refine ⟨es', clk, g1, by rw [shEs_length]; exact g2, fun i k v hi => ?_⟩
    rw [shEs_get, Option.map_eq_some_iff] at hi
    obtain ⟨⟨k0, v0⟩, h0, hkv⟩ := hi
    simp only [Prod.mk.injEq] at hkv
    obtain ⟨rfl, rfl⟩ := hkv
    obtain ⟨f1, e, f2, f3, f4⟩ := g3 i k0 v0 h0
    exact ⟨f1, e, f2, f3, f4.sh h⟩

theorem getH_sh {n : Nat} {h : List (Nat × Blk)} (hh : ∀ b, n ≤ b → getH h b = none) : ∀ (h0 : List (Nat × Blk)) (b : Nat), getH (shH (n + ·) h0 h) b = if n ≤ b then (getH h0 (b - n)).map (shB (n + ·)) else getH h b
  | [], b => by
    simp only [shH, getH]
    split
    · rename_i hb; rw [hh b hb]; rfl
    · rfl
  | (i, k) :: r, b => by
    simp only [shH, getH]
    by_cases hb : b = n + i
    · subst hb
      simp
    · rw [if_neg hb, getH_sh hh r b]
      by_cases hn : n ≤ b
      · rw [if_pos hn, if_pos hn, if_neg (by omega)]
      · rw [if_neg hn, if_neg hn]

theorem rel_none (w : World) : Rel (fun _ => none) ⟨[], 0⟩ w := ⟨fun b l h => by simp at h, fun b k h => by simp [St.get, getH] at h, fun b c k k' l l' h => by simp [St.get, getH] at h⟩

theorem moved_calls {P : Program} {f : FuncId} {F : List Value → St → Option (Value × St)} (h : FnOk P f (.st F)) {φ : Phi} {s s0 : St} {w : World} {args args' : List Value} {v : Value} (hr : Rel φ s w) (ha : VsRel φ args args') (hp : plainVs args = true)
    (hF : F args ⟨[], 0⟩ = some (v, s0)) : Calls P f ⟨args'⟩ w fun
      | .returned u, w' => ∃ φ', Step φ s w φ' ⟨shH (s.n + ·) s0.h s.h, s.n + s0.n⟩ w' ∧ VRel φ' (shV (s.n + ·) v) u
      | _, _ => False := by
  refine (h (fun _ => none) ⟨[], 0⟩ w args args' _ _ (rel_none w) (by rw [VsRel.plain_eq ha hp]; exact VsRel.of_plain _ hp) hF).mono fun e w' he => ?_
  cases e with
  | returned u =>
    obtain ⟨φ1, hst, hv⟩ := he
    have hb : Below w.heap.size w w' := ⟨hst.frm.os, hst.frm.tape, hst.frm.output, hst.frm.size, fun c hc => hst.frm.old c hc fun b k l g1 g2 _ => by simp [St.get, getH] at g1⟩
    let φ' : Phi := fun b => if b < s.n then φ b else φ1 (b - s.n)
    have hold : ∀ b l, φ b = some l → φ' b = some l := fun b l hl => by
      have := hr.fresh b l hl
      simp only [φ', if_pos this, hl]
    have hnew : ∀ b l, φ1 b = some l → φ' (s.n + b) = some l := fun b l hl => by
      simp only [φ', if_neg (show ¬ s.n + b < s.n by omega), show s.n + b - s.n = b by omega, hl]
    have hnone : ∀ b, s.n ≤ b → getH s.h b = none := fun b hb => by
      cases hg : s.get b with
      | none => exact hg
      | some k =>
        obtain ⟨l, hl, _⟩ := hr.blk b k hg
        have := hr.fresh b l hl
        omega
    have hget : ∀ b k, (⟨shH (s.n + ·) s0.h s.h, s.n + s0.n⟩ : St).get b = some k → (b < s.n ∧ s.get b = some k) ∨ (s.n ≤ b ∧ ∃ k0, s0.get (b - s.n) = some k0 ∧ k = shB (s.n + ·) k0) := fun b k hk => by
      simp only [St.get, getH_sh hnone] at hk
      split at hk
      · rename_i hb
        rw [Option.map_eq_some_iff] at hk
        obtain ⟨k0, h1, rfl⟩ := hk
        exact .inr ⟨hb, k0, h1, rfl⟩
      · exact .inl ⟨by omega, hk⟩
    have hro : ∀ k, (shB (s.n + ·) k).ro = k.ro := fun k => by cases k <;> rfl
    have hnl : ∀ b k l, s0.get b = some k → φ1 b = some l → w.heap.size ≤ l.blk := fun b k l h1 h2 => by
      rcases hst.own b k l h1 h2 with h3 | ⟨b0, k0, l0, f1, _⟩
      · exact h3
      · simp [St.get, getH] at f1
    have hol : ∀ b k l, s.get b = some k → φ b = some l → l.blk < w.heap.size := fun b k l h1 h2 => by
      obtain ⟨l2, f1, f2⟩ := hr.blk b k h1
      rw [f1] at h2
      simp only [Option.some.injEq] at h2
      subst h2
      exact f2.lt
    have hpo : ∀ b l, b < s.n → φ' b = some l → φ b = some l := fun b l hb hl => by simpa only [φ', if_pos hb] using hl
    have hpn : ∀ b l, s.n ≤ b → φ' b = some l → φ1 (b - s.n) = some l := fun b l hb hl => by simpa only [φ', if_neg (Nat.not_lt.2 hb)] using hl
    refine ⟨φ', ⟨⟨fun b l hl => ?_, fun b k hk => ?_, fun b c k k' l l' h1 h2 hne hk h3 h4 => ?_⟩, hold, ⟨hb.os, hb.tape, hb.output, hb.size, fun c hc _ => hb.block c hc⟩, fun b k l h1 h2 => ?_⟩, hv.sh (n := (s.n + ·)) hnew⟩
    · show b < s.n + s0.n
      by_cases hb2 : b < s.n
      · omega
      · have := hst.rel.fresh _ _ (hpn b l (by omega) hl)
        omega
    · rcases hget b k hk with ⟨h1, h2⟩ | ⟨h1, k0, h2, rfl⟩
      · obtain ⟨l, f1, f2⟩ := hr.blk b k h2
        exact ⟨l, hold b l f1, f2.of_same hold (hb.block _ f2.lt)⟩
      · obtain ⟨l, f1, f2⟩ := hst.rel.blk _ k0 h2
        have := hnew _ _ f1
        rw [show s.n + (b - s.n) = b by omega] at this
        exact ⟨l, this, f2.sh (n := (s.n + ·)) hnew⟩
    · rcases hget b k h1 with ⟨g1, g2⟩ | ⟨g1, k0, g2, rfl⟩
      · rcases hget c k' h2 with ⟨e1, e2⟩ | ⟨e1, k1, e2, rfl⟩
        · exact hr.inj b c k k' l l' g2 e2 hne hk (hpo b l g1 h3) (hpo c l' e1 h4)
        · have := hol b k l g2 (hpo b l g1 h3)
          have := hnl _ _ _ e2 (hpn c l' e1 h4)
          omega
      · rcases hget c k' h2 with ⟨e1, e2⟩ | ⟨e1, k1, e2, rfl⟩
        · have := hol c k' l' e2 (hpo c l' e1 h4)
          have := hnl _ _ _ g2 (hpn b l g1 h3)
          omega
        · exact hst.rel.inj _ _ k0 k1 l l' g2 e2 (by omega) (by rw [← hro]; exact hk) (hpn b l g1 h3) (hpn c l' e1 h4)
    · rcases hget b k h1 with ⟨g1, g2⟩ | ⟨g1, k0, g2, rfl⟩
      · exact .inr ⟨b, k, l, g2, id, hpo b l g1 h2, rfl⟩
      · exact .inl (hnl _ _ _ g2 (hpn b l g1 h2))
  | _ => exact he.elim

theorem FnOk.moved {P : Program} {f : FuncId} {F : List Value → St → Option (Value × St)} (h : FnOk P f (.st F)) : FnOk P f (.st (movedW (F [] ⟨[], 0⟩))) := by
  intro φ s w args args' r s' hr ha hg
  unfold movedW at hg
  split at hg
  · split at hg
    · rename_i v s0 hF
      simp only [Option.some.injEq, Prod.mk.injEq] at hg
      obtain ⟨rfl, rfl⟩ := hg
      exact moved_calls h hr ha rfl hF
    · simp at hg
  · simp at hg

/-- One block is the caller's; the others are new. -/
def ren (b n : Nat) (i : Nat) : Nat := if i = 0 then b else n + (i - 1)

def shH1 (b n : Nat) : List (Nat × Blk) → List (Nat × Blk) → List (Nat × Blk)
  | [], h => h
  | (0, _) :: r, h => shH1 b n r h
  | (i + 1, k) :: r, h => (n + i, shB (ren b n) k) :: shH1 b n r h

def allRw : List (Nat × Blk) → Bool
  | [] => true
  | (i, k) :: r => (i == 0 || !k.ro) && allRw r

def plainRows : List (List Value) → Bool
  | [] => true
  | r :: q => plainVs r && plainRows q

/-- What a call of a number and a slice of plain rows answers, reckoned at a memory that holds these rows alone. -/
def movedAt (F : List Value → St → Option (Value × St)) (args : List Value) (s : St) : Option (Value × St) :=
  match args with
  | [.int k x, .slice none 0 0] => match F [.int k x, .slice none 0 0] ⟨[], 0⟩ with
    | some (v, s0) => some (shV (s.n + ·) v, ⟨shH (s.n + ·) s0.h s.h, s.n + s0.n⟩)
    | none => none
  | [.int k x, .slice (some ⟨b, 0, some 0⟩) len e] => match s.get b with
    | some (.row sz rows _) => if plainRows rows then (match F [.int k x, .slice (some ⟨0, 0, some 0⟩) len e] ⟨[(0, .row sz rows true)], 1⟩ with
      | some (v, s0) => if allRw s0.h then some (shV (ren b s.n) v, ⟨shH1 b s.n s0.h s.h, s.n + (s0.n - 1)⟩) else none
      | none => none) else none
    | _ => none
  | _ => none

theorem getH_sh1 {b n : Nat} {h : List (Nat × Blk)} (hh : ∀ c, n ≤ c → getH h c = none) : ∀ (h0 : List (Nat × Blk)) (c : Nat), getH (shH1 b n h0 h) c = if n ≤ c then (getH h0 (c - n + 1)).map (shB (ren b n)) else getH h c
  | [], c => by
    simp only [shH1, getH]
    split
    · rename_i hc; rw [hh c hc]; rfl
    · rfl
  | (0, k) :: r, c => by
    simp only [shH1, getH]
    rw [getH_sh1 hh r c]
    simp
  | (i + 1, k) :: r, c => by
    simp only [shH1, getH]
    by_cases hc : c = n + i
    · subst hc
      simp
    · rw [if_neg hc, getH_sh1 hh r c]
      by_cases hn : n ≤ c
      · rw [if_pos hn, if_pos hn, if_neg (by omega)]
      · rw [if_neg hn, if_neg hn]

theorem allRw_get : ∀ {h : List (Nat × Blk)} {i : Nat} {k : Blk}, allRw h = true → getH h i = some k → i ≠ 0 → k.ro = false
  | [], _, _, _, h, _ => by simp [getH] at h
  | (j, x) :: r, i, k, ha, h, hi => by
    simp only [allRw, Bool.and_eq_true, Bool.or_eq_true, beq_iff_eq, Bool.not_eq_true'] at ha
    simp only [getH] at h
    split at h
    · rename_i hij
      subst hij
      simp only [Option.some.injEq] at h
      subst h
      rcases ha.1 with h1 | h1
      · exact absurd h1 hi
      · exact h1
    · exact allRw_get ha.2 h hi

/-- The joining of what is new to what was there. -/
theorem joined {φ φ0 φ1 : Phi} {s s1 s0 : St} {w w' : World} {b : Nat} (hr : Rel φ s w) (hb : Below w.heap.size w w') (hst : Step φ0 s1 w φ1 s0 w') (hs1 : ∀ c k, s1.get c = some k → k.ro = true) (hrw : allRw s0.h = true)
    (h0 : ∀ l, φ1 0 = some l → φ b = some l) (hn1 : 1 ≤ s0.n) :
    ∃ φ', Step φ s w φ' ⟨shH1 b s.n s0.h s.h, s.n + (s0.n - 1)⟩ w' ∧ ∀ i l, φ1 i = some l → φ' (ren b s.n i) = some l := by
  let φ' : Phi := fun c => if c < s.n then φ c else φ1 (c - s.n + 1)
  have hold : ∀ c l, φ c = some l → φ' c = some l := fun c l hl => by
    have := hr.fresh c l hl
    simp only [φ', if_pos this, hl]
  have hnew : ∀ i l, φ1 i = some l → φ' (ren b s.n i) = some l := fun i l hl => by
    unfold ren
    split
    · rename_i hi; subst hi; exact hold b l (h0 l hl)
    · simp only [φ', if_neg (show ¬ s.n + (i - 1) < s.n by omega), show s.n + (i - 1) - s.n + 1 = i by omega, hl]
  have hnone : ∀ c, s.n ≤ c → getH s.h c = none := fun c hc => by
    cases hg : s.get c with
    | none => exact hg
    | some k =>
      obtain ⟨l, hl, _⟩ := hr.blk c k hg
      have := hr.fresh c l hl
      omega
  have hget : ∀ c k, (⟨shH1 b s.n s0.h s.h, s.n + (s0.n - 1)⟩ : St).get c = some k → (c < s.n ∧ s.get c = some k) ∨ (s.n ≤ c ∧ ∃ k0, s0.get (c - s.n + 1) = some k0 ∧ k = shB (ren b s.n) k0) := fun c k hk => by
    simp only [St.get, getH_sh1 hnone] at hk
    split at hk
    · rename_i hc
      rw [Option.map_eq_some_iff] at hk
      obtain ⟨k0, h1, rfl⟩ := hk
      exact .inr ⟨hc, k0, h1, rfl⟩
    · exact .inl ⟨by omega, hk⟩
  have hro : ∀ k, (shB (ren b s.n) k).ro = k.ro := fun k => by cases k <;> rfl
  have hnl : ∀ i k l, s0.get i = some k → i ≠ 0 → φ1 i = some l → w.heap.size ≤ l.blk := fun i k l h1 h3 h2 => by
    rcases hst.own i k l h1 h2 with h4 | ⟨b0, k0, l0, f1, f2, _⟩
    · exact h4
    · have := f2 (allRw_get hrw h1 h3)
      rw [hs1 b0 k0 f1] at this
      cases this
  have hol : ∀ c k l, s.get c = some k → φ c = some l → l.blk < w.heap.size := fun c k l h1 h2 => by
    obtain ⟨l2, f1, f2⟩ := hr.blk c k h1
    rw [f1] at h2
    simp only [Option.some.injEq] at h2
    subst h2
    exact f2.lt
  have hpo : ∀ c l, c < s.n → φ' c = some l → φ c = some l := fun c l hc hl => by simpa only [φ', if_pos hc] using hl
  have hpn : ∀ c l, s.n ≤ c → φ' c = some l → φ1 (c - s.n + 1) = some l := fun c l hc hl => by simpa only [φ', if_neg (Nat.not_lt.2 hc)] using hl
  refine ⟨φ', ⟨⟨fun c l hl => ?_, fun c k hk => ?_, fun c d k k' l l' h1 h2 hne hk h3 h4 => ?_⟩, hold, ⟨hb.os, hb.tape, hb.output, hb.size, fun c hc _ => hb.block c hc⟩, fun c k l h1 h2 => ?_⟩, hnew⟩
  · show c < s.n + (s0.n - 1)
    by_cases hb2 : c < s.n
    · omega
    · have := hst.rel.fresh _ _ (hpn c l (by omega) hl)
      omega
  · rcases hget c k hk with ⟨h1, h2⟩ | ⟨h1, k0, h2, rfl⟩
    · obtain ⟨l, f1, f2⟩ := hr.blk c k h2
      exact ⟨l, hold c l f1, f2.of_same hold (hb.block _ f2.lt)⟩
    · obtain ⟨l, f1, f2⟩ := hst.rel.blk _ k0 h2
      have := hnew _ _ f1
      rw [show ren b s.n (c - s.n + 1) = c by unfold ren; rw [if_neg (by omega)]; omega] at this
      exact ⟨l, this, f2.sh (n := ren b s.n) hnew⟩
  · rcases hget c k h1 with ⟨g1, g2⟩ | ⟨g1, k0, g2, rfl⟩
    · rcases hget d k' h2 with ⟨e1, e2⟩ | ⟨e1, k1, e2, rfl⟩
      · exact hr.inj c d k k' l l' g2 e2 hne hk (hpo c l g1 h3) (hpo d l' e1 h4)
      · have := hol c k l g2 (hpo c l g1 h3)
        have := hnl _ _ _ e2 (by omega) (hpn d l' e1 h4)
        omega
    · rcases hget d k' h2 with ⟨e1, e2⟩ | ⟨e1, k1, e2, rfl⟩
      · have := hol d k' l' e2 (hpo d l' e1 h4)
        have := hnl _ _ _ g2 (by omega) (hpn c l g1 h3)
        omega
      · exact hst.rel.inj _ _ k0 k1 l l' g2 e2 (by omega) (by rw [← hro]; exact hk) (hpn c l g1 h3) (hpn d l' e1 h4)
  · rcases hget c k h1 with ⟨g1, g2⟩ | ⟨g1, k0, g2, rfl⟩
    · exact .inr ⟨c, k, l, g2, id, hpo c l g1 h2, rfl⟩
    · exact .inl (hnl _ _ _ g2 (by omega) (hpn c l g1 h2))

theorem plainRows_mem : ∀ {rows : List (List Value)} {r : List Value}, plainRows rows = true → r ∈ rows → plainVs r = true
  | [], _, _, h => by simp at h
  | a :: q, r, h, hm => by
    simp only [plainRows, Bool.and_eq_true] at h
    rcases List.mem_cons.1 hm with rfl | hm
    · exact h.1
    · exact plainRows_mem h.2 hm

theorem plainVs_get : ∀ {l : List Value} {j : Nat} {v : Value}, plainVs l = true → l[j]? = some v → plainV v = true
  | [], _, _, _, h => by simp at h
  | a :: l, 0, v, h, hv => by
    simp only [plainVs, Bool.and_eq_true] at h
    simp only [List.getElem?_cons_zero, Option.some.injEq] at hv
    exact hv ▸ h.1
  | a :: l, j + 1, v, h, hv => by
    simp only [plainVs, Bool.and_eq_true] at h
    exact plainVs_get h.2 (by simpa using hv)

theorem below_ro {φ0 φ1 : Phi} {s1 s0 : St} {w w' : World} (hst : Step φ0 s1 w φ1 s0 w') (hs1 : ∀ c k, s1.get c = some k → k.ro = true) : Below w.heap.size w w' :=
  ⟨hst.frm.os, hst.frm.tape, hst.frm.output, hst.frm.size, fun c hc => hst.frm.old c hc fun b k l g1 g2 _ => by rw [hs1 b k g1] at g2; cases g2⟩

theorem FnOk.movedAt {P : Program} {f : FuncId} {F : List Value → St → Option (Value × St)} (h : FnOk P f (.st F)) : FnOk P f (.st (Sim.movedAt F)) := by
  intro φ s w args args' r s' hr ha hg
  unfold Sim.movedAt at hg
  split at hg
  · rename_i k x
    split at hg
    · rename_i v s0 hF
      simp only [Option.some.injEq, Prod.mk.injEq] at hg
      obtain ⟨rfl, rfl⟩ := hg
      exact moved_calls h hr ha rfl hF
    · simp at hg
  · rename_i k x b len e
    split at hg
    · rename_i sz rows ro hgb
      split at hg
      · rename_i hpl
        split at hg
        · rename_i v s0 hF
          split at hg
          · rename_i hrw
            simp only [Option.some.injEq, Prod.mk.injEq] at hg
            obtain ⟨rfl, rfl⟩ := hg
            obtain ⟨l, hl, hB⟩ := hr.blk b _ hgb
            let φ0 : Phi := fun i => if i = 0 then some l else none
            have hs1 : ∀ c k, (⟨[(0, .row sz rows true)], 1⟩ : St).get c = some k → k.ro = true := fun c k h => by
              simp only [St.get, getH] at h
              split at h
              · simp only [Option.some.injEq] at h; subst h; rfl
              · simp at h
            have hR : Rel φ0 ⟨[(0, .row sz rows true)], 1⟩ w := by
              refine ⟨fun i l' hi => ?_, fun i k hi => ?_, fun i j k k' l1 l2 h1 h2 hne hk => ?_⟩
              · simp only [φ0] at hi
                split at hi
                · rename_i h0; subst h0; exact Nat.zero_lt_one
                · simp at hi
              · simp only [St.get, getH] at hi
                split at hi
                · rename_i h0
                  simp only [Option.some.injEq] at hi
                  subst hi
                  refine ⟨l, by simp [φ0, h0], ?_⟩
                  obtain ⟨g1, g2, cs, et, fz, g3, g4, g5, _⟩ := hB
                  refine ⟨g1, g2, cs, et, fz, g3, g4, fun i r hr2 => ⟨(g5 i r hr2).1, (g5 i r hr2).2.1, fun j v hv => ?_⟩, fun e => by cases e⟩
                  obtain ⟨u, f1, f2⟩ := (g5 i r hr2).2.2 j v hv
                  have hpv := plainVs_get (plainRows_mem hpl (List.mem_of_getElem? hr2)) hv
                  refine ⟨u, f1, ?_⟩
                  rw [VRel.plain_eq f2 hpv]
                  exact VRel.of_plain _ hpv
                · simp at hi
              · rw [hs1 i k h1] at hk; cases hk
            have hA : VsRel φ0 [.int k x, .slice (some ⟨0, 0, some 0⟩) len e] args' := by
              cases ha with
              | cons a1 t1 =>
                cases a1
                cases t1 with
                | cons a2 t2 =>
                  cases t2
                  cases a2 with
                  | slice q1 q2 q3 q4 q5 =>
                    rw [hl] at q1
                    simp only [Option.some.injEq] at q1
                    subst q1
                    exact .cons (.int _ _) (.cons (.slice (b := 0) (by simp [φ0]) q2 q3 q4 q5) .nil)
            refine (h _ _ w _ _ _ _ hR hA hF).mono fun e w' he => ?_
            cases e with
            | returned u =>
              obtain ⟨φ1, hst, hv⟩ := he
              have hb := below_ro hst hs1
              have h10 : φ1 0 = some l := hst.ext 0 l (by simp [φ0])
              have hn1 : 1 ≤ s0.n := hst.rel.fresh 0 l h10
              obtain ⟨φ', g1, g2⟩ := joined (b := b) hr hb hst hs1 hrw (fun l' hl' => by rw [h10] at hl'; simp only [Option.some.injEq] at hl'; rw [← hl']; exact hl) hn1
              exact ⟨φ', g1, hv.sh (n := ren b s.n) g2⟩
            | _ => exact he.elim
          · simp at hg
        · simp at hg
      · simp at hg
    · simp at hg
  · simp at hg
end Go.Sim
set_option linter.unusedSimpArgs false
set_option linter.unusedVariables false
namespace Go.Sim
open Go.RowKit (Below)

/-- Fields that follow one another without a gap, of types that `F` takes. -/
def fieldsOk (P : Program) (F : TypeId → Bool) : List Field → Nat → Nat → Bool
  | [], o, n => o == n
  | f :: r, o, n => f.offset == o && F f.type && fieldsOk P F r (o + P.cellsOf f.type) n

/-- The types of arguments that are taken. -/
def tyOk (P : Program) : Nat → TypeId → Bool
  | 0, _ => false
  | d + 1, t => match P.underlying t with
    | some .bool => true
    | some (.int _) => true
    | some .string => true
    | some (.slice e) => decide (0 < P.cellsOf e) && tyOk P d e
    | some (.struct fs) => fieldsOk P (tyOk P d) fs.toList 0 (P.cellsOf t)
    | some (.array n e) => decide (P.cellsOf t = n * P.cellsOf e) && tyOk P d e
    | _ => false

def TyFs (P : Program) (F : TypeId → List Value → Prop) : List Field → List Value → Prop
  | [], cs => cs = []
  | f :: r, cs => F f.type (cs.take (P.cellsOf f.type)) ∧ TyFs P F r (cs.drop (P.cellsOf f.type))

def TyN (n : Nat) (F : List Value → Prop) : Nat → List Value → Prop
  | 0, cs => cs = []
  | k + 1, cs => F (cs.take n) ∧ TyN n F k (cs.drop n)

/-- What abstract cells of a type look like. -/
def TyA (P : Program) (s : St) : Nat → TypeId → List Value → Prop
  | 0, _, _ => False
  | d + 1, t, cs => match P.underlying t with
    | some .bool => ∃ b, cs = [.bool b]
    | some (.int k) => ∃ n, cs = [.int k n] ∧ (Lit.int k n).wf = true
    | some .string => ∃ x : ByteArray, cs = [.string x] ∧ x.size ≤ maxLen
    | some (.slice e) => cs = [.slice none 0 0] ∨ ∃ b len cap rows, cs = [.slice (some ⟨b, 0, some 0⟩) len (2 * cap)] ∧ len ≤ cap ∧ cap ≤ maxLen ∧ s.get b = some (.row (P.cellsOf e) rows true) ∧ rows.length = cap ∧ ∀ r ∈ rows, TyA P s d e r
    | some (.struct fs) => TyFs P (TyA P s d) fs.toList cs
    | some (.array n e) => TyN (P.cellsOf e) (TyA P s d e) n cs
    | _ => False

theorem TyFs.mono {P : Program} {F G : TypeId → List Value → Prop} (h : ∀ t cs, F t cs → G t cs) : ∀ {fs : List Field} {cs : List Value}, TyFs P F fs cs → TyFs P G fs cs
  | [], _, e => e
  | _ :: _, _, ⟨h1, h2⟩ => ⟨h _ _ h1, TyFs.mono h h2⟩

theorem TyN.mono {n : Nat} {F G : List Value → Prop} (h : ∀ cs, F cs → G cs) : ∀ {k : Nat} {cs : List Value}, TyN n F k cs → TyN n G k cs
  | 0, _, e => e
  | _ + 1, _, ⟨h1, h2⟩ => ⟨h _ h1, TyN.mono h h2⟩

theorem TyA.ext {P : Program} {s s' : St} (h : Ext s s') : ∀ {d : Nat} {t : TypeId} {cs : List Value}, TyA P s d t cs → TyA P s' d t cs
  | 0, _, _, e => e.elim
  | d + 1, t, cs, e => by
    unfold TyA at *
    split at e
    · exact e
    · exact e
    · exact e
    · rcases e with e | ⟨b, len, cap, rows, h1, h2, h3, h4, h5, h6⟩
      · exact .inl e
      · exact .inr ⟨b, len, cap, rows, h1, h2, h3, h _ _ h4, h5, fun r hr => TyA.ext h (h6 r hr)⟩
    · exact TyFs.mono (fun _ _ => TyA.ext h) e
    · exact TyN.mono (fun _ => TyA.ext h) e
    · exact e.elim

/-- A heap of rows that nobody turns. -/
def AllRo (s : St) : Prop := ∀ b k, s.get b = some k → k.ro = true

theorem AllRo.nil (n : Nat) : AllRo ⟨[], n⟩ := fun b k h => by simp [St.get, getH] at h

theorem rel_nil (w : World) : Rel (fun _ => none) ⟨[], 0⟩ w := ⟨fun b l h => by simp at h, fun b k h => by simp [St.get, getH] at h, fun b c k k' l l' h => by simp [St.get, getH] at h⟩

/-- One row more. -/
theorem rel_ro {φ : Phi} {s : St} {w : World} {l : Loc} {sz : Nat} {rows : List (List Value)} (h : Rel φ s w) (ha : AllRo s) (hb : BRel φ l (.row sz rows true) w) :
    Rel (φ.add s.n l) (s.new (.row sz rows true)) w ∧ AllRo (s.new (.row sz rows true)) ∧ φ.le (φ.add s.n l) ∧ Ext s (s.new (.row sz rows true)) := by
  have hle := Phi.le_add h l
  have hro : AllRo (s.new (.row sz rows true)) := fun b k hk => by
    rw [St.get_new] at hk
    split at hk
    · simp only [Option.some.injEq] at hk; subst hk; rfl
    · exact ha b k hk
  refine ⟨⟨fun b l' hb' => ?_, fun b k hk => ?_, fun b c k k' l1 l2 h1 h2 hne hr => by rw [hro b k h1] at hr; cases hr⟩, hro, hle, ext_new s h.lt _⟩
  · simp only [Phi.add] at hb'
    split at hb'
    · rename_i e; subst e; simp
    · have := h.fresh b l' hb'; simp; omega
  · rw [St.get_new] at hk
    split at hk
    · rename_i e
      subst e
      simp only [Option.some.injEq] at hk
      subst hk
      exact ⟨l, Phi.add_self _ _ _, hb.of_same hle rfl⟩
    · obtain ⟨l', h1, h2⟩ := h.blk b k hk
      exact ⟨l', hle _ _ h1, h2.of_same hle rfl⟩

/-- What abstract cells stand for these, heap and all. -/
def Got (P : Program) (w : World) (φ : Phi) (s : St) (X : St → List Value → Prop) (cs : List Value) : Prop :=
  ∃ φ' s' abs, Rel φ' s' w ∧ AllRo s' ∧ φ.le φ' ∧ Ext s s' ∧ VsRel φ' abs cs ∧ oneCs abs = true ∧ X s' abs

theorem fieldsOk_le {P : Program} {F : TypeId → Bool} : ∀ {fs : List Field} {o n : Nat}, fieldsOk P F fs o n = true → o ≤ n
  | [], o, n, h => by simp only [fieldsOk, beq_iff_eq] at h; omega
  | f :: r, o, n, h => by
    simp only [fieldsOk, Bool.and_eq_true] at h
    have := fieldsOk_le h.2
    omega

def HasB (w : World) : Prop := ∃ (b : Nat) (cs : Array Value) (e : TypeId) (fz : Nat × Nat), w.heap[b]? = some (Obj.cells cs e fz)

def HB (w : World) (cs : List Value) : Prop := ∀ a len cap, Value.slice (some a) len cap ∈ cs → HasB w

section
variable {P : Program} {w : World} {H : Type} {enc : TypeId × Value → H} {held : Bool}

/-- One after the other. -/
theorem Got.append {φ : Phi} {s : St} {X Y Z : St → List Value → Prop} {cs ds : List Value} (h1 : Got P w φ s X cs) (h2 : ∀ φ' s', Rel φ' s' w → AllRo s' → Got P w φ' s' Y ds)
    (hm : ∀ s' s'' abs, Ext s' s'' → X s' abs → X s'' abs) (hz : ∀ s' a b, a.length = cs.length → X s' a → Y s' b → Z s' (a ++ b)) : Got P w φ s Z (cs ++ ds) := by
  obtain ⟨φ1, s1, a, r1, r2, r3, r4, r5, r6, r7⟩ := h1
  obtain ⟨φ2, s2, b, q1, q2, q3, q4, q5, q6, q7⟩ := h2 φ1 s1 r1 r2
  refine ⟨φ2, s2, a ++ b, q1, q2, r3.trans q3, r4.trans q4, (r5.mono q3).append q5, ?_, hz s2 a b r5.length (hm _ _ _ q4 r7) q7⟩
  refine oneCs_of fun i v hv => ?_
  rw [List.getElem?_append] at hv
  split at hv
  · exact oneCs_get r6 hv
  · exact oneCs_get q6 hv

theorem got_fields {d : Nat} {full : List Value}
    (IH : ∀ {t : TypeId} {cs : List Value} {m : Nat} {y : DataW H × List MemPlace} {φ : Phi} {s : St}, tyOk P d t = true → DataW.trod enc P w 0 (fun _ => true) held m t cs = some y → HB w cs → Rel φ s w → AllRo s → Got P w φ s (fun s' abs => TyA P s' d t abs) cs) :
    ∀ (fs : List Field) (o : Nat) {φ : Phi} {s : St}, fieldsOk P (tyOk P d) fs o full.length = true → (∀ f ∈ fs, ∃ m y, DataW.trod enc P w 0 (fun _ => true) held m f.type ((full.drop f.offset).take (P.cellsOf f.type)) = some y) → HB w full → Rel φ s w → AllRo s →
      Got P w φ s (fun s' abs => TyFs P (TyA P s' d) fs abs) (full.drop o)
  | [], o, φ, s, hf, _, _, hr, ha => by
    simp only [fieldsOk, beq_iff_eq] at hf
    have : full.drop o = [] := by rw [hf]; simp
    rw [this]
    exact ⟨φ, s, [], hr, ha, .refl _, .refl s, .nil, rfl, rfl⟩
  | f :: r, o, φ, s, hf, ht, hb, hr, ha => by
    simp only [fieldsOk, Bool.and_eq_true, beq_iff_eq] at hf
    obtain ⟨⟨rfl, h2⟩, h3⟩ := hf
    obtain ⟨m, y, hy⟩ := ht f (by simp)
    have hlen : ((full.drop f.offset).take (P.cellsOf f.type)).length = P.cellsOf f.type := by
      have := fieldsOk_le h3
      simp; omega
    have e : full.drop f.offset = (full.drop f.offset).take (P.cellsOf f.type) ++ full.drop (f.offset + P.cellsOf f.type) := by
      rw [← List.drop_drop, List.take_append_drop]
    rw [e]
    refine Got.append (IH h2 hy (fun a len cap hm => hb a len cap (List.mem_of_mem_drop (List.mem_of_mem_take hm))) hr ha) (fun φ' s' hr' ha' => got_fields IH r _ h3 (fun g hg => ht g (by simp [hg])) hb hr' ha')
      (fun s' s'' abs he h => TyA.ext he h) fun s' a b hl h4 h5 => ?_
    rw [hlen] at hl
    refine ⟨?_, ?_⟩
    · rw [← hl, List.take_left']
      · exact h4
      · rfl
    · rw [← hl, List.drop_left']
      · exact h5
      · rfl

theorem hasB_of_cell {a : Addr} {v : Value} (h : w.cell? a = some v) : HasB w := by
  unfold World.cell? at h
  split at h
  · rename_i cs e fz hh
    exact ⟨_, cs, e, fz, hh⟩
  · simp at h

theorem got_elems {d n : Nat} {e : TypeId} {full : List Value}
    (IH : ∀ {t : TypeId} {cs : List Value} {m : Nat} {y : DataW H × List MemPlace} {φ : Phi} {s : St}, tyOk P d t = true → DataW.trod enc P w 0 (fun _ => true) held m t cs = some y → HB w cs → Rel φ s w → AllRo s → Got P w φ s (fun s' abs => TyA P s' d t abs) cs)
    (he : tyOk P d e = true) (hl : full.length = n * P.cellsOf e) (hb : HB w full) (ht : ∀ i, i < n → ∃ m y, DataW.trod enc P w 0 (fun _ => true) held m e ((full.drop (i * P.cellsOf e)).take (P.cellsOf e)) = some y) :
    ∀ (k i : Nat) {φ : Phi} {s : St}, i + k = n → Rel φ s w → AllRo s → Got P w φ s (fun s' abs => TyN (P.cellsOf e) (TyA P s' d e) k abs) (full.drop (i * P.cellsOf e))
  | 0, i, φ, s, hi, hr, ha => by
    have : full.drop (i * P.cellsOf e) = [] := by
      apply List.drop_eq_nil_of_le
      rw [hl, ← hi]; simp
    rw [this]
    exact ⟨φ, s, [], hr, ha, .refl _, .refl s, .nil, rfl, rfl⟩
  | k + 1, i, φ, s, hi, hr, ha => by
    obtain ⟨m, y, hy⟩ := ht i (by omega)
    have hlen : ((full.drop (i * P.cellsOf e)).take (P.cellsOf e)).length = P.cellsOf e := by
      have : (i + 1) * P.cellsOf e ≤ n * P.cellsOf e := Nat.mul_le_mul_right _ (by omega)
      rw [Nat.succ_mul] at this
      simp; omega
    have e2 : full.drop (i * P.cellsOf e) = (full.drop (i * P.cellsOf e)).take (P.cellsOf e) ++ full.drop ((i + 1) * P.cellsOf e) := by
      rw [Nat.succ_mul, ← List.drop_drop, List.take_append_drop]
    rw [e2]
    refine Got.append (IH he hy (fun a len cap hm => hb a len cap (List.mem_of_mem_drop (List.mem_of_mem_take hm))) hr ha) (fun φ' s' hr' ha' => got_elems IH he hl hb ht k (i + 1) (by omega) hr' ha')
      (fun s' s'' abs he h => TyA.ext he h) fun s' a b hl2 h4 h5 => ?_
    rw [hlen] at hl2
    refine ⟨?_, ?_⟩
    · rw [List.take_left' hl2]
      exact h4
    · rw [List.drop_left' hl2]
      exact h5

theorem got_rows {d : Nat} {e : TypeId} {a : Addr}
    (IH : ∀ {t : TypeId} {cs : List Value} {m : Nat} {y : DataW H × List MemPlace} {φ : Phi} {s : St}, tyOk P d t = true → DataW.trod enc P w 0 (fun _ => true) held m t cs = some y → HB w cs → Rel φ s w → AllRo s → Got P w φ s (fun s' abs => TyA P s' d t abs) cs)
    (he : tyOk P d e = true) (h0 : 0 < P.cellsOf e) : ∀ (n : Nat) {φ : Phi} {s : St}, (∀ i, i < n → ∃ m y, (w.cells? 0 (a.add (i * P.cellsOf e)) (P.cellsOf e)).bind (DataW.trod enc P w 0 (fun _ => true) held m e) = some y) → Rel φ s w → AllRo s →
      ∃ (φ' : Phi) (s' : St) (rows : List (List Value)), Rel φ' s' w ∧ AllRo s' ∧ φ.le φ' ∧ Ext s s' ∧ rows.length = n ∧ ∀ (i : Nat) r, rows[i]? = some r → r.length = P.cellsOf e ∧ oneCs r = true ∧ TyA P s' d e r ∧ ∀ (j : Nat) v, r[j]? = some v → ∃ u, w.cell? ((a.add (i * P.cellsOf e)).add j) = some u ∧ VRel φ' v u
  | 0, φ, s, _, hr, ha => ⟨φ, s, [], hr, ha, .refl _, .refl s, rfl, fun i r h => by simp at h⟩
  | n + 1, φ, s, ht, hr, ha => by
    obtain ⟨φ1, s1, rows, r1, r2, r3, r4, r5, r6⟩ := got_rows IH he h0 n (fun i hi => ht i (by omega)) hr ha
    obtain ⟨m, y, hy⟩ := ht n (by omega)
    rw [Option.bind_eq_some_iff] at hy
    obtain ⟨cs, hcs, hy⟩ := hy
    obtain ⟨_, hl, hc⟩ := World.cells?_some hcs
    have hB : HasB w := by
      have := hc 0 h0
      have hx : ∃ v, cs[0]? = some v := ⟨cs[0]'(by omega), List.getElem?_eq_getElem (by omega)⟩
      obtain ⟨v, hv⟩ := hx
      rw [hv] at this
      exact hasB_of_cell this
    obtain ⟨φ2, s2, abs, q1, q2, q3, q4, q5, q6, q7⟩ := IH he hy (fun _ _ _ _ => hB) r1 r2
    refine ⟨φ2, s2, rows ++ [abs], q1, q2, r3.trans q3, r4.trans q4, by simp [r5], fun i r hi => ?_⟩
    rw [List.getElem?_append] at hi
    split at hi
    · obtain ⟨f1, f2, f3, f4⟩ := r6 i r hi
      refine ⟨f1, f2, TyA.ext q4 f3, fun j v hv => ?_⟩
      obtain ⟨u, g1, g2⟩ := f4 j v hv
      exact ⟨u, g1, g2.mono q3⟩
    · rename_i hge
      have hin : i = n := by
        have := (List.getElem?_eq_some_iff.1 hi).1
        simp at this
        omega
      subst hin
      rw [r5] at hi
      simp at hi
      subst hi
      refine ⟨by rw [q5.length, hl], q6, q7, fun j v hv => ?_⟩
      obtain ⟨u, g1, g2⟩ := q5.get hv
      have hj : j < P.cellsOf e := by
        have := (List.getElem?_eq_some_iff.1 g1).1
        omega
      exact ⟨u, by rw [hc j hj]; exact g1, g2⟩

theorem args_abs : ∀ (d : Nat) {t : TypeId} {cs : List Value} {m : Nat} {y : DataW H × List MemPlace} {φ : Phi} {s : St}, tyOk P d t = true → DataW.trod enc P w 0 (fun _ => true) held m t cs = some y → HB w cs → Rel φ s w → AllRo s →
    Got P w φ s (fun s' abs => TyA P s' d t abs) cs
  | 0, t, cs, m, y, φ, s, h, _, _, _, _ => by simp [tyOk] at h
  | d + 1, t, cs, m, y, φ, s, h, ht, hb, hr, ha => by
    have one : ∀ {v : Value}, plainV v = true → oneC v = true → TyA P s (d + 1) t [v] → Got P w φ s (fun s' abs => TyA P s' (d + 1) t abs) [v] := fun h1 h2 h3 =>
      ⟨φ, s, _, hr, ha, .refl _, .refl s, .cons (VRel.of_plain φ h1) .nil, by simp [oneCs, h2], h3⟩
    unfold tyOk at h
    split at h
    · rename_i hu
      obtain ⟨b, rfl, _⟩ := DataW.trod_bool hu ht
      exact one rfl rfl (by simp [TyA, hu])
    · rename_i k hu
      obtain ⟨n, rfl, _, hw⟩ := DataW.trod_int hu ht
      exact one rfl rfl (by simp [TyA, hu, hw])
    · rename_i hu
      obtain ⟨x, rfl, _, hw⟩ := DataW.trod_string hu ht
      exact one rfl rfl (by simp [TyA, hu, hw])
    · rename_i e hu
      simp only [Bool.and_eq_true, decide_eq_true_eq] at h
      obtain ⟨h0, he⟩ := h
      rcases DataW.trod_slice hu ht with ⟨rfl, _⟩ | ⟨a, len, cap, elems, rest, n, _, rfl, _, _, hlc, hmax, hel, hels, hsp, _⟩
      · exact one rfl rfl (by simp [TyA, hu])
      · obtain ⟨hrl, hre⟩ := hsp rfl
        have hall : ∀ i, i < cap → ∃ m y, (w.cells? 0 (a.add (i * P.cellsOf e)) (P.cellsOf e)).bind (DataW.trod enc P w 0 (fun _ => true) held m e) = some y := by
          intro i hi
          by_cases hil : i < len
          · exact ⟨n, elems[i]'(by omega), by rw [hels i hil]; exact List.getElem?_eq_getElem (by omega)⟩
          · refine ⟨n, rest[i - len]'(by omega), ?_⟩
            have := hre (i - len) (by omega)
            rw [show len + (i - len) = i by omega] at this
            rw [this]
            exact List.getElem?_eq_getElem (by omega)
        obtain ⟨φ1, s1, rows, r1, r2, r3, r4, r5, r6⟩ := got_rows (fun h1 h2 h3 h4 h5 => args_abs d h1 h2 h3 h4 h5) he h0 cap hall hr ha
        obtain ⟨b, cs0, e0, fz0, hB⟩ := hb a len cap (by simp)
        have key : ∃ l : Loc, BRel φ1 l (.row (P.cellsOf e) rows true) w ∧ l.cap = cap ∧ l.sz = P.cellsOf e ∧ (cap ≠ 0 → a = ⟨l.blk, l.off, none⟩) := by
          by_cases hc0 : cap = 0
          · subst hc0
            have : rows = [] := List.length_eq_zero_iff.1 r5
            subst this
            exact ⟨⟨b, 0, P.cellsOf e, 0⟩, ⟨rfl, by simp, cs0, e0, fz0, hB, by simp, fun i r hi => by simp at hi, fun hx => by cases hx⟩, rfl, rfl, fun h => absurd rfl h⟩
          · have cell : ∀ i j, i < cap → j < P.cellsOf e → ∃ r v u, rows[i]? = some r ∧ r[j]? = some v ∧ w.cell? ((a.add (i * P.cellsOf e)).add j) = some u := by
              intro i j hi hj
              have hr1 : rows[i]? = some (rows[i]'(by omega)) := List.getElem?_eq_getElem (by omega)
              obtain ⟨g1, _, _, g4⟩ := r6 i _ hr1
              have hv : (rows[i]'(by omega))[j]? = some ((rows[i]'(by omega))[j]'(by omega)) := List.getElem?_eq_getElem (by omega)
              obtain ⟨u, g5, _⟩ := g4 j _ hv
              exact ⟨_, _, u, hr1, hv, g5⟩
            obtain ⟨blk, off, spot⟩ := a
            obtain ⟨_, _, u0, _, _, hu0⟩ := cell 0 0 (by omega) h0
            have hspot : spot = none := by
              unfold World.cell? at hu0
              simp only [Addr.add, Nat.zero_mul, if_true] at hu0
              cases spot with
              | none => rfl
              | some q => split at hu0 <;> simp at hu0
            subst hspot
            have hblk : ∃ cs e fz, w.heap[blk]? = some (Obj.cells cs e fz) := by
              unfold World.cell? at hu0
              simp only [Addr.add, Nat.zero_mul, if_true] at hu0
              split at hu0
              · rename_i c x fz hh; exact ⟨_, _, _, hh⟩
              · simp at hu0
            obtain ⟨cs1, e1, fz1, hh⟩ := hblk
            have hadd : ∀ i j, w.cell? (((⟨blk, off, none⟩ : Addr).add (i * P.cellsOf e)).add j) = cs1[off + i * P.cellsOf e + j]? := fun i j => by
              rw [Addr.add_mid, Addr.add_mid, cell_at hh]
            refine ⟨⟨blk, off, P.cellsOf e, cap⟩, ⟨rfl, by rw [r5]; exact Nat.le_refl _, cs1, e1, fz1, hh, ?_, fun i r hi => ?_, fun hx => by cases hx⟩, rfl, rfl, fun _ => rfl⟩
            · obtain ⟨_, _, u, _, _, hu2⟩ := cell (cap - 1) (P.cellsOf e - 1) (by omega) (by omega)
              rw [hadd] at hu2
              have hlt := (Array.getElem?_eq_some_iff.1 hu2).1
              have : cap * P.cellsOf e = (cap - 1) * P.cellsOf e + P.cellsOf e := by
                rw [← Nat.succ_mul]; congr 1; omega
              show off + cap * P.cellsOf e ≤ cs1.size
              omega
            · obtain ⟨g1, g2, _, g4⟩ := r6 i r hi
              refine ⟨g1, g2, fun j v hv => ?_⟩
              obtain ⟨u, g5, g6⟩ := g4 j v hv
              rw [hadd] at g5
              exact ⟨u, g5, g6⟩
        obtain ⟨l, hBR, hcap, hsz, haddr⟩ := key
        obtain ⟨q1, q2, q3, q4⟩ := rel_ro r1 r2 hBR
        refine ⟨_, _, [.slice (some ⟨s1.n, 0, some 0⟩) len (2 * cap)], q1, q2, r3.trans q3, r4.trans q4, .cons (.slice (l := l) (Phi.add_self _ _ _) hlc (by omega) (fun hc => by rw [haddr hc]; simp) (.inr rfl)) .nil, rfl, ?_⟩
        simp only [TyA, hu]
        exact .inr ⟨s1.n, len, cap, rows, rfl, hlc, hmax, by rw [St.get_new, if_pos rfl], r5, fun r hm => by
          obtain ⟨i, hi⟩ := List.getElem?_of_mem hm
          exact TyA.ext q4 (r6 i r hi).2.2.1⟩
    · rename_i fs hu
      obtain ⟨xs, n, _, _, hlen, hxl, hx⟩ := DataW.trod_struct hu ht
      have := got_fields (fun h1 h2 h3 h4 h5 => args_abs d h1 h2 h3 h4 h5) fs.toList 0 (full := cs) (by rw [hlen]; exact h) (fun f hf => by
        obtain ⟨i, hi⟩ := List.getElem?_of_mem hf
        have hi' : fs[i]? = some f := by simpa using hi
        have hlt : i < fs.size := (Array.getElem?_eq_some_iff.1 hi').1
        exact ⟨n, xs[i]'(by omega), by rw [hx i f hi']; exact List.getElem?_eq_getElem (by omega)⟩) hb hr ha
      simpa [TyA, hu] using this
    · rename_i n e hu
      simp only [Bool.and_eq_true, decide_eq_true_eq] at h
      obtain ⟨xs, q, _, _, hlen, hxl, hx⟩ := DataW.trod_array hu ht
      have := got_elems (fun h1 h2 h3 h4 h5 => args_abs d h1 h2 h3 h4 h5) h.2 (n := n) (full := cs) (by rw [hlen]; exact h.1) hb (fun i hi => ⟨q, xs[i]'(by omega), by rw [hx i hi]; exact List.getElem?_eq_getElem (by omega)⟩) n 0 (by omega) hr ha
      simpa [TyA, hu] using this
    · simp at h

end
end Go.Sim
set_option linter.unusedSimpArgs false
set_option linter.unusedVariables false
namespace Go.Sim
open Go.RowKit (Below)
open Go.ChangeShapes Go.WideShapes Go.RowKit

/-- What an abstract argument of a type looks like. -/
def TyV (P : Program) (s : St) (d : Nat) (t : TypeId) (v : Value) : Prop :=
  match P.underlying t with
  | some (.struct _) | some (.array _ _) => ∃ cs, v = .agg ⟨cs⟩ ∧ TyA P s d t cs
  | _ => TyA P s d t [v]

def TyVs (P : Program) (s : St) (d : Nat) : List TypeId → List Value → Prop
  | [], [] => True
  | t :: ts, v :: vs => TyV P s d t v ∧ TyVs P s d ts vs
  | _, _ => False

theorem TyV.ext {P : Program} {s s' : St} (h : Ext s s') {d : Nat} {t : TypeId} {v : Value} (e : TyV P s d t v) : TyV P s' d t v := by
  unfold TyV at *
  split at e
  · obtain ⟨cs, h1, h2⟩ := e; exact ⟨cs, h1, TyA.ext h h2⟩
  · obtain ⟨cs, h1, h2⟩ := e; exact ⟨cs, h1, TyA.ext h h2⟩
  · exact TyA.ext h e

theorem hasB_of_cellOk {P : Program} {w : World} {r : Reach} {base : Nat} {t : TypeId} {a : Addr} {len cap : Nat} (h : Cell.okWide P w r base t (.slice (some a) len cap)) : HasB w := by
  have h2 : Cell.ok P w r base t (.slice (some a) len cap) := by
    unfold Cell.okWide at h
    split at h <;> first | exact h | simp_all
  unfold Cell.ok at h2
  split at h2 <;> first | (simp at *; done) | skip
  all_goals rename_i hv
  all_goals first | (simp at hv; done) | skip
  · rename_i e a' len' cap' hu
    simp only [Value.slice.injEq, Option.some.injEq] at hv
    obtain ⟨rfl, rfl, rfl⟩ := hv
    obtain ⟨_, _, _, _, row, cells, hs, _⟩ := h2
    unfold World.shape? at hs
    split at hs
    · rename_i c x fz hh; exact ⟨_, c, _, _, hh⟩
    · simp at hs

theorem hb_of_ok {P : Program} {w : World} {r : Reach} {base : Nat} {t : TypeId} {v : Value} (h : Value.okWide P w r base t v) : HB w v.cells.toList := by
  intro a len cap hm
  unfold Value.okWide at h
  have row : ∀ cs : Array Value, v = .agg cs → Row.okWide P w r base t cs → HasB w := fun cs hv hr => by
    obtain ⟨ts, _, _, hall⟩ := hr
    subst hv
    obtain ⟨i, hi⟩ := List.getElem?_of_mem hm
    obtain ⟨u, _, hc⟩ := hall i _ (by simpa [Value.cells] using hi)
    exact hasB_of_cellOk hc
  split at h
  · obtain ⟨cs, hv, _, hr⟩ := h; exact row cs hv hr
  · obtain ⟨cs, hv, _, hr⟩ := h; exact row cs hv hr
  · cases v with
    | agg cs =>
      exfalso
      unfold Cell.okWide at h
      split at h <;> first | exact h | (simp at *; done) | skip
      all_goals first | (rename_i hv; simp at hv; done) | skip
      unfold Cell.ok at h
      split at h <;> first | exact h | (simp at *; done) | (rename_i hv; simp at hv; done)
    | slice b l c =>
      simp [Value.cells] at hm
      obtain ⟨rfl, rfl, rfl⟩ := hm
      exact hasB_of_cellOk h
    | _ => simp [Value.cells] at hm

section
variable {P : Program} {w : World} {H : Type} {enc : TypeId × Value → H} {held : Bool}

theorem arg_abs {d base : Nat} {t : TypeId} {v : Value} {y : DataW H} {ps : List MemPlace} {φ : Phi} {s : St} (ht : tyOk P d t = true) (h : DataW.Trod enc P w 0 (fun _ => true) held t v y ps) (hok : Value.okWide P w .any base t v)
    (hr : Rel φ s w) (ha : AllRo s) : ∃ φ' s' u, Rel φ' s' w ∧ AllRo s' ∧ φ.le φ' ∧ Ext s s' ∧ VRel φ' u v ∧ TyV P s' d t u := by
  obtain ⟨m, hm⟩ := h
  obtain ⟨φ', s', abs, h1, h2, h3, h4, h5, h6, h7⟩ := args_abs d ht hm (hb_of_ok hok) hr ha
  unfold Value.okWide at hok
  unfold TyV
  split at hok
  · rename_i hu
    obtain ⟨cs, rfl, _, _⟩ := hok
    exact ⟨φ', s', .agg ⟨abs⟩, h1, h2, h3, h4, .agg h5 h6, by rw [hu]; exact ⟨abs, rfl, h7⟩⟩
  · rename_i hu
    obtain ⟨cs, rfl, _, _⟩ := hok
    exact ⟨φ', s', .agg ⟨abs⟩, h1, h2, h3, h4, .agg h5 h6, by rw [hu]; exact ⟨abs, rfl, h7⟩⟩
  · rename_i n1 n2
    have key : ∃ a, abs = [a] := by
      cases d with
      | zero => exact h7.elim
      | succ d =>
        unfold TyA at h7
        split at h7
        · obtain ⟨b, rfl⟩ := h7; exact ⟨_, rfl⟩
        · obtain ⟨b, rfl, _⟩ := h7; exact ⟨_, rfl⟩
        · obtain ⟨b, rfl, _⟩ := h7; exact ⟨_, rfl⟩
        · rcases h7 with rfl | ⟨_, _, _, _, rfl, _⟩ <;> exact ⟨_, rfl⟩
        · rename_i fs hu; exact absurd hu (n1 _)
        · rename_i n e hu; exact absurd hu (n2 _ _)
        · exact h7.elim
    obtain ⟨a, rfl⟩ := key
    have hv : v.cells.toList = [v] := by
      have hl := h5.length
      cases v with
      | agg cs =>
        exfalso
        unfold Cell.okWide at hok
        split at hok <;> first | exact hok | (simp at *; done) | skip
        all_goals first | (rename_i hv; simp at hv; done) | skip
        unfold Cell.ok at hok
        split at hok <;> first | exact hok | (simp at *; done) | (rename_i hv; simp at hv; done)
      | _ => simp [Value.cells]
    rw [hv] at h5
    cases h5 with
    | cons h5 _ => exact ⟨φ', s', a, h1, h2, h3, h4, h5, by split <;> first | exact h7 | exact absurd ‹_› (n1 _) | exact absurd ‹_› (n2 _ _)⟩

theorem row_args {d base : Nat} : ∀ {ts : List TypeId} {vs : List Value} {ds : List (DataW H)} {ps : List MemPlace} {φ : Phi} {s : St}, ts.all (tyOk P d) = true → DataW.TrodAll enc P w 0 (fun _ => true) held ts vs ds ps →
    (∀ (j : Nat) t v, ts[j]? = some t → vs[j]? = some v → Value.okWide P w .any base t v) → Rel φ s w → AllRo s → ∃ φ' s' us, Rel φ' s' w ∧ AllRo s' ∧ φ.le φ' ∧ Ext s s' ∧ VsRel φ' us vs ∧ TyVs P s' d ts us
  | [], vs, ds, ps, φ, s, _, h, _, hr, ha => by
    obtain ⟨rfl, rfl, rfl⟩ := trodAll_nil h
    exact ⟨φ, s, [], hr, ha, .refl _, .refl s, .nil, trivial⟩
  | t :: ts, vs, ds, ps, φ, s, ht, h, hok, hr, ha => by
    obtain ⟨v, vs', y, ds', p, q, rfl, rfl, rfl, h1, h2⟩ := trodAll_cons h
    simp only [List.all_cons, Bool.and_eq_true] at ht
    obtain ⟨φ1, s1, u, a1, a2, a3, a4, a5, a6⟩ := arg_abs ht.1 h1 (hok 0 t v rfl rfl) hr ha
    obtain ⟨φ2, s2, us, b1, b2, b3, b4, b5, b6⟩ := row_args ht.2 h2 (fun j t v e1 e2 => hok (j + 1) t v e1 e2) a1 a2
    exact ⟨φ2, s2, u :: us, b1, b2, a3.trans b3, a4.trans b4, .cons (a5.mono b3) b5, TyV.ext b4 a6, b6⟩

theorem below_trodAll {W W' : World} (hl : laidOutB P = true) (hb : Below W.heap.size W W') : ∀ {ts : List TypeId} {vs : List Value} {ds : List (DataW H)} {ps : List MemPlace} (hr : ∀ t ∈ ts, P.readableRec t = true ∧ t < P.types.size)
    (h : DataW.TrodAll enc P W 0 (fun _ => true) true ts vs ds ps) (hlt : ∀ x ∈ ps, x.block < W.heap.size) {sp : Nat → Bool} (hsp : ∀ x ∈ ps, sp x.block = true), DataW.TrodAll enc P W' 0 sp true ts vs ds ps
  | [], _, _, _, _, h, _, _, _ => by
    obtain ⟨rfl, rfl, rfl⟩ := trodAll_nil h
    rfl
  | t :: ts, _, _, _, hr, h, hlt, sp, hsp => by
    obtain ⟨v, vs', y, ds', p, q, rfl, rfl, rfl, h1, h2⟩ := trodAll_cons h
    refine ⟨p, q, WideElems.Trod_stays hl (hr t (by simp)).1 (hr t (by simp)).2 h1 (fun x hx => hb.same (hlt x (by simp [hx]))) (fun x hx => hsp x (by simp [hx])),
      below_trodAll hl hb (fun t' ht' => hr t' (by simp [ht'])) h2 (fun x hx => hlt x (by simp [hx])) (fun x hx => hsp x (by simp [hx])), rfl⟩

end

section
variable {H : Type} {enc : TypeId × Value → H} {P : Program}
/-- What a claim asks of a call behind which all that was there reads as before, whatever is frozen of what is new. -/
theorem post_here {f : Func} {s : ChangeSpec} {apart fresh handsOn again : Bool} {W W' : World} {args : Array Value} {v : Value} {ds gs : List (DataW H)} {before pa pv : List MemPlace}
    (hW : DataW.Whole enc P f.params.toList s.vars apart W args.toList ds gs before)
    (hres : ∀ (b : Nat) (sp : Nat → Bool) (hd : Bool), DataW.TrodAll enc P W' b sp hd f.resultTypes.toList (v.resultList f.resultTypes.size) (s.fn H (ds ++ gs)).results [])
    (hargs : ∀ sp : Nat → Bool, (∀ p ∈ before, sp p.block = true) → DataW.TrodAll enc P W' 0 sp true f.params.toList args.toList (s.fn H (ds ++ gs)).args pa)
    (hvars : ∀ sp : Nat → Bool, (∀ p ∈ before, sp p.block = true) → DataW.TrodVars enc P W' sp s.vars (s.fn H (ds ++ gs)).vars pv)
    (hps : before = pa ++ pv) (hk : W.keptBut W' (· ∈ before)) (hfz : Froz W W')
    (hok : ∀ (j : Nat) (t : TypeId) (r : Value), f.resultTypes[j]? = some t → (v.resultList f.resultTypes.size)[j]? = some r → Value.okWide P W' .any 0 t r) :
    s.post enc P f apart fresh handsOn again W args v W' := by
  have hlt : ∀ p ∈ before, p.block < W.heap.size := fun p hp => hW.lt p hp
  have hold : ∀ p ∈ before, (fun b => decide (b < W.heap.size)) p.block = true := fun p hp => by simpa using hlt p hp
  refine ⟨ds, gs, before, [], pa, pv, hW, hres _ _ _, hargs _ hold, hvars _ hold, World.keptBut_mono (fun p hp => ⟨hp, ?_⟩) hk, fun _ => ?_⟩
  · rw [hps, List.mem_append] at hp
    exact Or.inr hp
  · obtain ⟨_, _, _, _, _, hz, hn⟩ := hW
    refine ⟨hok, _, _, ([] ++ pa) ++ pv, ⟨[] ++ pa, pv, trodAll_append (hargs _ (fun _ _ => rfl)) (hres _ _ _), hvars _ (fun _ _ => rfl), rfl, ?_, ?_⟩, ?_⟩
    · intro b off hp
      have hm : MemPlace.cell b off ∈ before := by rw [hps]; simpa using hp
      rw [hfz _ (hlt _ hm)]
      exact hz b off hm
    · intro ha
      have := hn ha
      rw [hps] at this
      simpa using this
    · intro p hp _
      rw [hps]
      simpa using hp
end

/-- THE ROW: a law without variables that answers `true` and leaves its arguments alone. -/
theorem contract {P : Program} {fid : FuncId} {fn : Func} {d : Nat} {tb : TypeId} {F : List Value → St → Option (Value × St)} {spec : ChangeSpec} {H : Type} {enc : TypeId × Value → H} {apart fresh handsOn again : Bool}
    (hl : laidOutB P = true) (hts : fn.params.toList.all (fun t => tyOk P d t && P.readableRec t && decide (t < P.types.size)) = true)
    (hres : fn.resultTypes = #[tb]) (htb : P.underlying tb = some .bool) (hv : spec.vars = [])
    (hfn : ∀ ds : List (DataW H), ds.length = fn.params.size → (spec.fn H ds).results = [.lit (.bool true)] ∧ (spec.fn H ds).args = ds ∧ (spec.fn H ds).vars = [])
    (sound : FnOk P fid (.st F))
    (law : ∀ (φ : Phi) (s : St) (us vs : List Value) (W : World), Rel φ s W → AllRo s → TyVs P s d fn.params.toList us → VsRel φ us vs → ∃ φ1 s1 us1, Rel φ1 s1 W ∧ AllRo s1 ∧ VsRel φ1 us1 vs ∧ ∃ s', F us1 s1 = some (.bool true, s'))
    (W : World) (base : Nat) (args : Array Value) (ds gs : List (DataW H)) (before : List MemPlace)
    (hval : ∀ (j : Nat) t v, fn.params[j]? = some t → args[j]? = some v → Value.okWide P W .any base t v)
    (hW : DataW.Whole enc P fn.params.toList spec.vars apart W args.toList ds gs before) :
    Calls P fid args W fun e W' => ∃ v, e = .returned v ∧ spec.post enc P fn apart fresh handsOn again W args v W' := by
  have hW' := hW
  obtain ⟨p, q, hA, hV, rfl, hfz, hnd⟩ := hW
  rw [hv] at hV
  obtain ⟨rfl, rfl⟩ := trodVars_none hV
  have hts' : fn.params.toList.all (tyOk P d) = true := by
    rw [List.all_eq_true] at hts ⊢
    intro t ht
    have := hts t ht
    simp only [Bool.and_eq_true] at this
    exact this.1.1
  obtain ⟨φ, s, us, h1, h2, _, _, h5, h6⟩ := row_args (φ := fun _ => none) (s := ⟨[], 0⟩) hts' hA (fun j t v e1 e2 => hval j t v (by simpa using e1) (by simpa using e2)) (rel_nil W) (AllRo.nil 0)
  obtain ⟨φ, s, us, h1, h2, h5, s', hF⟩ := law φ s us _ W h1 h2 h6 h5
  have hlen : ∀ {ts : List TypeId} {vs : List Value} {es : List (DataW H)} {ps : List MemPlace}, DataW.TrodAll enc P W 0 (fun _ => true) true ts vs es ps → es.length = ts.length := by
    intro ts
    induction ts with
    | nil => intro vs es ps h; obtain ⟨rfl, rfl, rfl⟩ := trodAll_nil h; rfl
    | cons t ts ih => intro vs es ps h; obtain ⟨v, vs', y, ds', p, q, rfl, rfl, rfl, _, h2⟩ := trodAll_cons h; simp [ih h2]
  obtain ⟨f1, f2, f3⟩ := hfn ds (by rw [hlen hA]; simp)
  have hc := sound φ s W us args.toList _ s' h1 h5 hF
  simp only [Array.toArray_toList] at hc
  have ea : (⟨args.toList⟩ : Array Value) = args := by cases args; rfl
  try rw [ea] at hc
  refine hc.mono fun e W' he => ?_
  cases e with
  | returned u =>
    obtain ⟨φ', hst, hvr⟩ := he
    cases hvr with
    | bool =>
    have hb : Below W.heap.size W W' := ⟨hst.frm.os, hst.frm.tape, hst.frm.output, hst.frm.size, fun c hc => hst.frm.old c hc fun b k l g1 g2 _ => by rw [h2 b k g1] at g2; cases g2⟩
    have hlt : ∀ x ∈ p, x.block < W.heap.size := fun x hx => hW'.lt x (by simp [hx])
    have e0 : ds ++ ([] : List (DataW H)) = ds := by simp
    refine ⟨_, rfl, post_here (pa := p) (pv := []) hW' (fun b sp hd => ?_) (fun sp hsp => ?_) (fun _ _ => ?_) rfl (hb.frame _) (Froz.of_below hb) (ok_one hres rfl (okWide_bool_mk htb _))⟩
    · rw [e0, f1, hres]
      exact trodAll_cons_mk (shut_bool htb _) trodAll_mk0
    · rw [e0, f2]
      refine below_trodAll hl hb (fun t ht => ?_) hA hlt (fun x hx => hsp x (by simp [hx]))
      rw [List.all_eq_true] at hts
      have := hts t ht
      simp only [Bool.and_eq_true, decide_eq_true_eq] at this
      exact ⟨this.1.2, this.2⟩
    · rw [e0, f3, hv]
      rfl
  | _ => exact he.elim
end Go.Sim
set_option linter.unusedSimpArgs false
set_option linter.unusedVariables false
namespace Go.Sim
open Go.RowKit (Below)
open Go.ChangeShapes Go.WideShapes Go.RowKit

inductive Leaf where
  | b
  | i (k : IntKind)
  | str
  | sl (row : List Leaf)

mutual
/-- What a cell looks like. -/
def Leaf.Is (s : St) : Leaf → Value → Prop
  | .b, v => ∃ x, v = .bool x
  | .i k, v => ∃ n, v = .int k n ∧ (Lit.int k n).wf = true
  | .str, v => ∃ x : ByteArray, v = .string x ∧ x.size ≤ maxLen
  | .sl row, v => v = .slice none 0 0 ∨ ∃ b len cap rows, v = .slice (some ⟨b, 0, some 0⟩) len (2 * cap) ∧ len ≤ cap ∧ cap ≤ maxLen ∧ s.get b = some (.row row.length rows true) ∧ rows.length = cap ∧ ∀ r ∈ rows, Leaf.Are s row r
def Leaf.Are (s : St) : List Leaf → List Value → Prop
  | [], cs => cs = []
  | x :: l, cs => ∃ v r, cs = v :: r ∧ Leaf.Is s x v ∧ Leaf.Are s l r
end

theorem Leaf.Are.length {s : St} : ∀ {l : List Leaf} {cs : List Value}, Leaf.Are s l cs → cs.length = l.length
  | [], cs, h => by unfold Leaf.Are at h; simp [h]
  | x :: l, cs, h => by
    unfold Leaf.Are at h
    obtain ⟨v, r, rfl, _, h⟩ := h
    simp [Leaf.Are.length h]

theorem Leaf.Are.append {s : St} : ∀ {l m : List Leaf} {cs ds : List Value}, Leaf.Are s l cs → Leaf.Are s m ds → Leaf.Are s (l ++ m) (cs ++ ds)
  | [], m, cs, ds, h, k => by unfold Leaf.Are at h; subst h; exact k
  | x :: l, m, cs, ds, h, k => by
    unfold Leaf.Are at h
    obtain ⟨v, r, rfl, h1, h⟩ := h
    simp only [List.cons_append]
    unfold Leaf.Are
    exact ⟨v, r ++ ds, rfl, h1, Leaf.Are.append h k⟩

def flatFs (P : Program) (F : TypeId → Option (List Leaf)) : List Field → Option (List Leaf)
  | [] => some []
  | f :: r => match F f.type, flatFs P F r with
    | some a, some b => if a.length = P.cellsOf f.type then some (a ++ b) else none
    | _, _ => none

def repL (l : List Leaf) : Nat → List Leaf
  | 0 => []
  | n + 1 => l ++ repL l n

/-- A type's cells. -/
def flat (P : Program) : Nat → TypeId → Option (List Leaf)
  | 0, _ => none
  | d + 1, t => match P.underlying t with
    | some .bool => some [.b]
    | some (.int k) => some [.i k]
    | some .string => some [.str]
    | some (.slice e) => match flat P d e with
      | some l => if l.length = P.cellsOf e then some [.sl l] else none
      | none => none
    | some (.struct fs) => flatFs P (flat P d) fs.toList
    | some (.array n e) => match flat P d e with
      | some l => if l.length = P.cellsOf e then some (repL l n) else none
      | none => none
    | _ => none

theorem are_one {s : St} {x : Leaf} {v : Value} (h : Leaf.Is s x v) : Leaf.Are s [x] [v] := by
  unfold Leaf.Are
  exact ⟨v, [], rfl, h, by unfold Leaf.Are; rfl⟩

theorem are_fields {P : Program} {s : St} {d : Nat} (IH : ∀ {t : TypeId} {cs : List Value} {l : List Leaf}, flat P d t = some l → TyA P s d t cs → Leaf.Are s l cs) :
    ∀ {fs : List Field} {cs : List Value} {l : List Leaf}, flatFs P (flat P d) fs = some l → TyFs P (TyA P s d) fs cs → Leaf.Are s l cs
  | [], cs, l, h, k => by
    simp only [flatFs, Option.some.injEq] at h
    subst h
    unfold Leaf.Are
    exact k
  | f :: r, cs, l, h, k => by
    unfold flatFs at h
    split at h
    · rename_i a b ha hb
      split at h
      · simp only [Option.some.injEq] at h
        subst h
        have := Leaf.Are.append (IH ha k.1) (are_fields IH hb k.2)
        rwa [List.take_append_drop] at this
      · simp at h
    · simp at h

theorem are_elems {P : Program} {s : St} {d : Nat} {e : TypeId} {l : List Leaf} (IH : ∀ {cs : List Value}, TyA P s d e cs → Leaf.Are s l cs) :
    ∀ {n : Nat} {cs : List Value}, TyN (P.cellsOf e) (TyA P s d e) n cs → Leaf.Are s (repL l n) cs
  | 0, cs, k => by unfold repL Leaf.Are; exact k
  | n + 1, cs, k => by
    unfold repL
    have := Leaf.Are.append (IH k.1) (are_elems IH k.2)
    rwa [List.take_append_drop] at this

theorem TyA.are {P : Program} {s : St} : ∀ {d : Nat} {t : TypeId} {cs : List Value} {l : List Leaf}, flat P d t = some l → TyA P s d t cs → Leaf.Are s l cs
  | 0, _, _, _, h, _ => by simp [flat] at h
  | d + 1, t, cs, l, h, k => by
    unfold flat at h
    unfold TyA at k
    split at h
    · rename_i hu
      simp only [hu] at k
      obtain ⟨b, rfl⟩ := k
      cases h
      exact are_one (by unfold Leaf.Is; exact ⟨b, rfl⟩)
    · rename_i kk hu
      simp only [hu] at k
      obtain ⟨n, rfl, hw⟩ := k
      cases h
      exact are_one (by unfold Leaf.Is; exact ⟨n, rfl, hw⟩)
    · rename_i hu
      simp only [hu] at k
      obtain ⟨n, rfl, hw⟩ := k
      cases h
      exact are_one (by unfold Leaf.Is; exact ⟨n, rfl, hw⟩)
    · rename_i e hu
      simp only [hu] at k
      split at h
      · rename_i le hle
        split at h
        · rename_i hlen
          cases h
          rcases k with rfl | ⟨b, len, cap, rows, rfl, h1, h2, h3, h4, h5⟩
          · exact are_one (by unfold Leaf.Is; exact .inl rfl)
          · exact are_one (by unfold Leaf.Is; exact .inr ⟨b, len, cap, rows, rfl, h1, h2, by rw [hlen]; exact h3, h4, fun r hr => TyA.are hle (h5 r hr)⟩)
        · simp at h
      · simp at h
    · rename_i fs hu
      simp only [hu] at k
      exact are_fields (fun h k => TyA.are h k) h k
    · rename_i n e hu
      simp only [hu] at k
      split at h
      · rename_i le hle
        split at h
        · cases h
          exact are_elems (fun k => TyA.are hle k) k
        · simp at h
      · simp at h
    · simp at h

/-- An argument: a row of cells or one alone. -/
def Arg (s : St) : Bool × List Leaf → Value → Prop
  | (true, l), v => ∃ cs, v = .agg ⟨cs⟩ ∧ Leaf.Are s l cs
  | (false, l), v => Leaf.Are s l [v]

def Args (s : St) : List (Bool × List Leaf) → List Value → Prop
  | [], vs => vs = []
  | l :: ls, vs => ∃ u us, vs = u :: us ∧ Arg s l u ∧ Args s ls us

def argL (P : Program) (d : Nat) (t : TypeId) : Option (Bool × List Leaf) :=
  match flat P d t, aggT P t with
  | some l, some a => some (a, l)
  | _, _ => none

def argLs (P : Program) (d : Nat) : List TypeId → Option (List (Bool × List Leaf))
  | [] => some []
  | t :: ts => match argL P d t, argLs P d ts with
    | some l, some ls => some (l :: ls)
    | _, _ => none

theorem TyVs.args {P : Program} {s : St} {d : Nat} : ∀ {ts : List TypeId} {us : List Value} {ls : List (Bool × List Leaf)}, argLs P d ts = some ls → TyVs P s d ts us → Args s ls us
  | [], us, ls, h, k => by
    cases h
    cases us with
    | nil => rfl
    | cons u us => exact k.elim
  | t :: ts, us, ls, h, k => by
    cases us with
    | nil => exact k.elim
    | cons u us =>
      unfold argLs at h
      split at h
      · rename_i l ls' h1 h2
        cases h
        refine ⟨u, us, rfl, ?_, TyVs.args h2 k.2⟩
        have k1 := k.1
        unfold argL aggT at h1
        unfold TyV at k1
        split at h1
        · rename_i l0 a0 hl ha
          cases h1
          split at ha
          · rename_i hu
            cases ha
            simp only [hu] at k1
            obtain ⟨cs, rfl, k2⟩ := k1
            exact ⟨cs, rfl, TyA.are hl k2⟩
          · rename_i hu
            cases ha
            simp only [hu] at k1
            obtain ⟨cs, rfl, k2⟩ := k1
            exact ⟨cs, rfl, TyA.are hl k2⟩
          · rename_i n1 n2 hu
            cases ha
            refine TyA.are hl ?_
            split at k1
            · rename_i hx; exact absurd (hu.symm.trans hx |> Option.some.inj) (n1 _)
            · rename_i hx; exact absurd (hu.symm.trans hx |> Option.some.inj) (n2 _ _)
            · exact k1
          · simp at ha
        · simp at h1
      · simp at h
end Go.Sim
set_option linter.unusedSimpArgs false
set_option linter.unusedVariables false
namespace Go.Sim
open Go.RowKit (Below)
open Go.ChangeShapes Go.WideShapes Go.RowKit

/-- A call without arguments that answers what is plain: known once for all memories. -/
def closedW (v : Value) : List Value → St → Option Value
  | [], _ => some v
  | _, _ => none

theorem FnOk.closed {P : Program} {f : FuncId} {F : List Value → St → Option (Value × St)} {v : Value} (h : FnOk P f (.st F)) (he : (F [] ⟨[], 0⟩).map (·.1) = some v) (hp : plainV v = true) : FnOk P f (.rd (closedW v)) := by
  intro φ s w args args' r hr ha hg
  unfold closedW at hg
  split at hg
  · cases hg
    cases ha
    rw [Option.map_eq_some_iff] at he
    obtain ⟨⟨v', s'⟩, h1, h2⟩ := he
    simp only at h2
    subst h2
    refine (h (fun _ => none) ⟨[], 0⟩ w [] [] _ _ (rel_nil w) .nil h1).mono fun e w' he => ?_
    cases e with
    | returned u =>
      obtain ⟨φ', hst, hv⟩ := he
      have hb : Below w.heap.size w w' := ⟨hst.frm.os, hst.frm.tape, hst.frm.output, hst.frm.size, fun c hc => hst.frm.old c hc fun b k l g1 g2 _ => by simp [St.get, getH] at g1⟩
      refine ⟨⟨hb, Froz.of_below hb⟩, ?_⟩
      rw [VRel.plain_eq hv hp]
      exact VRel.of_plain φ hp
    | _ => exact he.elim
  · simp at hg

def Leaf.scalar : Leaf → Bool
  | .sl _ => false
  | _ => true

theorem Leaf.Is.plain {s : St} {x : Leaf} {v : Value} (hx : x.scalar = true) (h : Leaf.Is s x v) : plainV v = true ∧ ∀ s', Leaf.Is s' x v := by
  cases x with
  | sl _ => simp [Leaf.scalar] at hx
  | b => unfold Leaf.Is at h; obtain ⟨x, rfl⟩ := h; exact ⟨rfl, fun _ => by unfold Leaf.Is; exact ⟨x, rfl⟩⟩
  | i k => unfold Leaf.Is at h; obtain ⟨x, rfl, hw⟩ := h; exact ⟨rfl, fun _ => by unfold Leaf.Is; exact ⟨x, rfl, hw⟩⟩
  | str => unfold Leaf.Is at h; obtain ⟨x, rfl, hw⟩ := h; exact ⟨rfl, fun _ => by unfold Leaf.Is; exact ⟨x, rfl, hw⟩⟩

theorem answer_cells {φ : Phi} {s : St} {W : World} : ∀ {ls : List Leaf} {row : List Leaf} {cs vs : List Value}, Rel φ s W → ls.all Leaf.scalar = true → Leaf.Are s (ls ++ [.sl row]) cs → VsRel φ cs vs →
    ∃ φ1 pre x, Rel φ1 ⟨[], 1⟩ W ∧ VsRel φ1 (pre ++ [x]) vs ∧ Leaf.Are ⟨[], 1⟩ ls pre ∧ (x = .slice none 0 0 ∨ ∃ len c, x = .slice (some ⟨0, 0, some 0⟩) len c)
  | [], row, cs, vs, hr, _, h, hv => by
    simp only [List.nil_append] at h
    unfold Leaf.Are at h
    obtain ⟨v, r, rfl, h1, h2⟩ := h
    unfold Leaf.Are at h2
    subst h2
    have hn : Rel (fun _ => none) ⟨[], 1⟩ W := ⟨fun b l h => by simp at h, fun b k h => by simp [St.get, getH] at h, fun b c k k' l l' h => by simp [St.get, getH] at h⟩
    unfold Leaf.Is at h1
    rcases h1 with rfl | ⟨b, len, cap, rows, rfl, h3, h4, h5, h6, _⟩
    · refine ⟨fun _ => none, [], _, hn, ?_, by unfold Leaf.Are; rfl, .inl rfl⟩
      cases hv with
      | cons a t =>
        cases t
        cases a
        exact .cons .snil .nil
    · cases hv with
      | cons a t =>
        cases t
        cases a with
        | slice g1 g2 g3 g4 g5 =>
          rename_i c a l
          refine ⟨fun x => if x = 0 then some l else none, [], _, ⟨fun b l h => ?_, fun b k h => by simp [St.get, getH] at h, fun b c k k' l l' h => by simp [St.get, getH] at h⟩, .cons (.slice (b := 0) (by simp) g2 g3 g4 g5) .nil, by unfold Leaf.Are; rfl, .inr ⟨_, _, rfl⟩⟩
          split at h
          · simp; omega
          · simp at h
  | x :: ls, row, cs, vs, hr, hs, h, hv => by
    simp only [List.cons_append] at h
    unfold Leaf.Are at h
    obtain ⟨v, r, rfl, h1, h2⟩ := h
    simp only [List.all_cons, Bool.and_eq_true] at hs
    cases hv with
    | cons a t =>
      obtain ⟨φ1, pre, y, g1, g2, g3, g4⟩ := answer_cells hr hs.2 h2 t
      obtain ⟨hp, hi⟩ := Leaf.Is.plain hs.1 h1
      refine ⟨φ1, v :: pre, y, g1, ?_, ?_, g4⟩
      · have := VRel.plain_eq a hp
        subst this
        exact .cons (VRel.of_plain φ1 hp) g2
      · unfold Leaf.Are
        exact ⟨v, pre, rfl, hi _, g3⟩

/-- Of a law of one answer, whose last cell alone may be a slice: it is enough to look at a heap without rows. -/
theorem answer_start {ls row : List Leaf} {F : List Value → St → Option (Value × St)} (hs : ls.all Leaf.scalar = true)
    (h : ∀ pre x, Leaf.Are ⟨[], 1⟩ ls pre → (x = .slice none 0 0 ∨ ∃ len c, x = .slice (some ⟨0, 0, some 0⟩) len c) → (F [.agg ⟨pre ++ [x]⟩] ⟨[], 1⟩).map (·.1) = some (.bool true))
    (φ : Phi) (s : St) (us vs : List Value) (W : World) (hr : Rel φ s W) (_ : AllRo s) (ha : Args s [(true, ls ++ [.sl row])] us) (hv : VsRel φ us vs) :
    ∃ φ1 s1 us1, Rel φ1 s1 W ∧ AllRo s1 ∧ VsRel φ1 us1 vs ∧ ∃ s', F us1 s1 = some (.bool true, s') := by
  unfold Args Args at ha
  obtain ⟨u, _, rfl, h1, rfl⟩ := ha
  unfold Arg at h1
  obtain ⟨cs, rfl, h1⟩ := h1
  cases hv with
  | cons a t =>
    cases t
    cases a with
    | agg b c =>
      obtain ⟨φ1, pre, x, g1, g2, g3, g4⟩ := answer_cells hr hs h1 b
      have h2 := h pre x g3 g4
      rw [Option.map_eq_some_iff] at h2
      obtain ⟨⟨v', s'⟩, h3, h4⟩ := h2
      simp only at h4
      subst h4
      have ho : oneCs (pre ++ [x]) = true := by
        have := VsRel.oneCs g2
        have := VsRel.oneCs b
        simp_all
      exact ⟨φ1, ⟨[], 1⟩, _, g1, AllRo.nil 1, .cons (.agg g2 ho) .nil, s', h3⟩

/-- THE ROW, by its arguments' cells. -/
theorem contractA {P : Program} {fid : FuncId} {fn : Func} {d : Nat} {tb : TypeId} {F : List Value → St → Option (Value × St)} {spec : ChangeSpec} {H : Type} {enc : TypeId × Value → H} {apart fresh handsOn again : Bool} {ls : List (Bool × List Leaf)}
    (hl : laidOutB P = true) (hts : fn.params.toList.all (fun t => tyOk P d t && P.readableRec t && decide (t < P.types.size)) = true)
    (hres : fn.resultTypes = #[tb]) (htb : P.underlying tb = some .bool) (hv : spec.vars = [])
    (hfn : ∀ ds : List (DataW H), ds.length = fn.params.size → (spec.fn H ds).results = [.lit (.bool true)] ∧ (spec.fn H ds).args = ds ∧ (spec.fn H ds).vars = [])
    (sound : FnOk P fid (.st F)) (hls : argLs P d fn.params.toList = some ls)
    (law : ∀ (φ : Phi) (s : St) (us vs : List Value) (W : World), Rel φ s W → AllRo s → Args s ls us → VsRel φ us vs → ∃ φ1 s1 us1, Rel φ1 s1 W ∧ AllRo s1 ∧ VsRel φ1 us1 vs ∧ ∃ s', F us1 s1 = some (.bool true, s'))
    (W : World) (base : Nat) (args : Array Value) (ds gs : List (DataW H)) (before : List MemPlace)
    (hval : ∀ (j : Nat) t v, fn.params[j]? = some t → args[j]? = some v → Value.okWide P W .any base t v)
    (hW : DataW.Whole enc P fn.params.toList spec.vars apart W args.toList ds gs before) :
    Calls P fid args W fun e W' => ∃ v, e = .returned v ∧ spec.post enc P fn apart fresh handsOn again W args v W' :=
  contract hl hts hres htb hv hfn sound (fun φ s us vs W h1 h2 h3 h4 => law φ s us vs W h1 h2 (TyVs.args hls h3) h4) W base args ds gs before hval hW

/-- A law that is shown at its own memory. -/
theorem law_here {F : List Value → St → Option (Value × St)} {ls : List (Bool × List Leaf)}
    (h : ∀ (s : St) (us : List Value), AllRo s → (∀ b, s.n ≤ b → s.get b = none) → Args s ls us → ∃ s', F us s = some (.bool true, s'))
    (φ : Phi) (s : St) (us vs : List Value) (W : World) (hr : Rel φ s W) (ha : AllRo s) (h1 : Args s ls us) (hv : VsRel φ us vs) :
    ∃ φ1 s1 us1, Rel φ1 s1 W ∧ AllRo s1 ∧ VsRel φ1 us1 vs ∧ ∃ s', F us1 s1 = some (.bool true, s') :=
  ⟨φ, s, us, hr, ha, hv, h s us ha (fun b hb => by
    cases hg : s.get b with
    | none => rfl
    | some k =>
      obtain ⟨l, hl1, _⟩ := hr.blk b k hg
      have := hr.fresh b l hl1
      omega) h1⟩
end Go.Sim
