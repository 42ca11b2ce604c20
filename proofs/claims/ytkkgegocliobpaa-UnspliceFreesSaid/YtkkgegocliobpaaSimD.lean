/-
  The operations that touch memory: what the abstract heap answers, the model's world answers too.
-/
import Derived.Test.YtkkgegocliobpaaSimC
import Derived.Laws.CopyRow
import Derived.Laws.Rows
import Derived.Deep.MidRow
namespace Go.Sim

/-! ### Steps -/

theorem BRel.unfrozen {φ : Phi} {l : Loc} {k : Blk} {w : World} (h : BRel φ l k w) (hro : k.ro = false) {a : Addr} (ha : a.block = l.blk) : w.frozen? a = false := by
  unfold World.frozen?
  cases k with
  | row sz rows ro =>
    obtain ⟨_, _, cs, e, fz, hh, _, _, h5⟩ := h
    have := h5 hro
    subst this
    rw [ha, hh]
    simp
  | map es ro =>
    obtain ⟨es', clk, hh, _⟩ := h
    rw [ha, hh]

theorem Rel.at {φ : Phi} {s : St} {w : World} {b : Nat} {k : Blk} {l : Loc} (h : Rel φ s w) (hk : s.get b = some k) (hl : φ b = some l) : BRel φ l k w := by
  obtain ⟨l2, h1, h2⟩ := h.blk b k hk
  rw [hl] at h1
  simp only [Option.some.injEq] at h1
  exact h1 ▸ h2

/-- One row turned in place. -/
theorem put_step {φ : Phi} {s : St} {w w' : World} {b : Nat} {k k' : Blk} {l : Loc} (h : Rel φ s w) (hk : s.get b = some k) (hro : k.ro = false)
    (hl : φ b = some l) (hB : BRel φ l k' w') (hf : ∀ c, c ≠ l.blk → w'.heap[c]? = w.heap[c]?) (hs : w'.heap.size = w.heap.size)
    (ho : w'.os = w.os) (ht : w'.tape = w.tape) (hu : w'.output = w.output) : Step φ s w φ (s.put b k') w' := by
  have hget : ∀ c x, (s.put b k').get c = some x → (c = b ∧ x = k') ∨ (c ≠ b ∧ s.get c = some x) := by
    intro c x hx
    rw [St.get_put] at hx
    by_cases hc : c = b
    · subst hc; rw [if_pos rfl, hk] at hx; simp at hx; exact .inl ⟨rfl, hx.symm⟩
    · rw [if_neg hc] at hx; exact .inr ⟨hc, hx⟩
  refine ⟨⟨h.fresh, fun c x hx => ?_, fun c d x y l1 l2 hx hy hne hr h1 h2 => ?_⟩, .refl _, ⟨ho, ht, hu, Nat.le_of_eq hs.symm, fun c hc hn => hf c fun e => hn b k l hk hro hl e.symm⟩, fun c x l1 hx h1 => ?_⟩
  · rcases hget c x hx with ⟨rfl, rfl⟩ | ⟨hc, hx⟩
    · exact ⟨l, hl, hB⟩
    · obtain ⟨l1, h1, h2⟩ := h.blk c x hx
      exact ⟨l1, h1, h2.of_same (.refl _) (hf _ (fun e => h.inj b c k x l l1 hk hx (Ne.symm hc) hro hl h1 e.symm))⟩
  · rcases hget c x hx with ⟨rfl, rfl⟩ | ⟨hc, hx'⟩
    · rcases hget d y hy with ⟨rfl, rfl⟩ | ⟨hd, hy'⟩
      · exact absurd rfl hne
      · exact h.inj c d k y l1 l2 hk hy' hne hro h1 h2
    · rcases hget d y hy with ⟨rfl, rfl⟩ | ⟨hd, hy'⟩
      · exact h.inj c d x k l1 l2 hx' hk hne hr h1 h2
      · exact h.inj c d x y l1 l2 hx' hy' hne hr h1 h2
  · rcases hget c x hx with ⟨rfl, rfl⟩ | ⟨hc, hx⟩
    · exact .inr ⟨c, k, l1, hk, fun _ => hro, h1, rfl⟩
    · exact .inr ⟨c, x, l1, hx, id, h1, rfl⟩

/-- The place of one more row. -/
def Phi.add (φ : Phi) (n : Nat) (l : Loc) : Phi := fun b => if b = n then some l else φ b

theorem Phi.le_add {φ : Phi} {s : St} {w : World} (h : Rel φ s w) (l : Loc) : φ.le (φ.add s.n l) := by
  intro b l' hb
  have := h.fresh b l' hb
  unfold Phi.add
  rw [if_neg (by omega)]
  exact hb

theorem Phi.add_self (φ : Phi) (n : Nat) (l : Loc) : φ.add n l n = some l := by simp [Phi.add]

/-- One row more, in a block that was not there. -/
theorem new_step {φ : Phi} {s : St} {w w' : World} {k : Blk} {l : Loc} (h : Rel φ s w) (hl : w.heap.size ≤ l.blk)
    (hB : BRel (φ.add s.n l) l k w') (hf : ∀ c, c < w.heap.size → w'.heap[c]? = w.heap[c]?) (hs : w.heap.size ≤ w'.heap.size)
    (ho : w'.os = w.os) (ht : w'.tape = w.tape) (hu : w'.output = w.output) (hz : Froz w w') : Step φ s w (φ.add s.n l) (s.new k) w' := by
  have hle := Phi.le_add h l
  have hget : ∀ c x, (s.new k).get c = some x → (c = s.n ∧ x = k) ∨ (c ≠ s.n ∧ s.get c = some x) := by
    intro c x hx
    rw [St.get_new] at hx
    by_cases hc : c = s.n
    · rw [if_pos hc] at hx; simp at hx; exact .inl ⟨hc, hx.symm⟩
    · rw [if_neg hc] at hx; exact .inr ⟨hc, hx⟩
  have hphi : ∀ c x, s.get c = some x → ∀ l1, φ.add s.n l c = some l1 → φ c = some l1 ∧ l1.blk < w.heap.size := by
    intro c x hx l1 h1
    obtain ⟨l2, h2, h3⟩ := h.blk c x hx
    have := hle c l2 h2
    rw [this] at h1
    simp at h1
    subst h1
    exact ⟨h2, h3.lt⟩
  refine ⟨⟨fun b l1 hb => ?_, fun c x hx => ?_, fun c d x y l1 l2 hx hy hne hr h1 h2 => ?_⟩, hle, ⟨ho, ht, hu, hs, fun c hc _ => hf c hc⟩, fun c x l1 hx h1 => ?_⟩
  · unfold Phi.add at hb
    by_cases hc : b = s.n
    · subst hc; simp
    · rw [if_neg hc] at hb
      have := h.fresh b l1 hb
      simp; omega
  · rcases hget c x hx with ⟨rfl, rfl⟩ | ⟨hc, hx⟩
    · exact ⟨l, Phi.add_self _ _ _, hB⟩
    · obtain ⟨l1, h1, h2⟩ := h.blk c x hx
      exact ⟨l1, hle _ _ h1, h2.of_same hle (hf _ h2.lt)⟩
  · rcases hget c x hx with ⟨rfl, rfl⟩ | ⟨hc, hx'⟩
    · rcases hget d y hy with ⟨rfl, rfl⟩ | ⟨hd, hy'⟩
      · exact absurd rfl hne
      · rw [Phi.add_self] at h1; simp at h1; subst h1
        have := (hphi d y hy' l2 h2).2
        omega
    · rcases hget d y hy with ⟨rfl, rfl⟩ | ⟨hd, hy'⟩
      · rw [Phi.add_self] at h2; simp at h2; subst h2
        have := (hphi c x hx' l1 h1).2
        omega
      · exact h.inj c d x y l1 l2 hx' hy' hne hr (hphi c x hx' l1 h1).1 (hphi d y hy' l2 h2).1
  · rcases hget c x hx with ⟨rfl, rfl⟩ | ⟨hc, hx⟩
    · rw [Phi.add_self] at h1; simp at h1; subst h1
      exact .inl hl
    · exact .inr ⟨c, x, l1, hx, id, (hphi c x hx l1 h1).1, rfl⟩

/-- A row moved under a new name, its block turned. -/
theorem move_step {φ : Phi} {s : St} {w w' : World} {b : Nat} {k k' : Blk} {l l' : Loc} (h : Rel φ s w) (hk : s.get b = some k) (hro : k.ro = false) (hro' : k'.ro = false)
    (hl : φ b = some l) (hll : l'.blk = l.blk) (hB : BRel (φ.add s.n l') l' k' w') (hf : ∀ c, c ≠ l.blk → w'.heap[c]? = w.heap[c]?) (hs : w'.heap.size = w.heap.size)
    (ho : w'.os = w.os) (ht : w'.tape = w.tape) (hu : w'.output = w.output) : Step φ s w (φ.add s.n l') ((s.del b).new k') w' := by
  have hle := Phi.le_add h l'
  have hbn : b ≠ s.n := by have := h.fresh b l hl; omega
  have hget : ∀ c x, ((s.del b).new k').get c = some x → (c = s.n ∧ x = k') ∨ (c ≠ s.n ∧ c ≠ b ∧ s.get c = some x) := by
    intro c x hx
    rw [St.get_new, show (s.del b).n = s.n from rfl] at hx
    by_cases hc : c = s.n
    · rw [if_pos hc] at hx; simp at hx; exact .inl ⟨hc, hx.symm⟩
    · rw [if_neg hc, St.get_del] at hx
      by_cases hcb : c = b
      · rw [if_pos hcb] at hx; simp at hx
      · rw [if_neg hcb] at hx; exact .inr ⟨hc, hcb, hx⟩
  have hphi : ∀ c x, s.get c = some x → ∀ l1, φ.add s.n l' c = some l1 → φ c = some l1 := by
    intro c x hx l1 h1
    obtain ⟨l2, h2, h3⟩ := h.blk c x hx
    have := hle c l2 h2
    rw [this] at h1
    simp at h1
    subst h1
    exact h2
  refine ⟨⟨fun c l1 hb => ?_, fun c x hx => ?_, fun c d x y l1 l2 hx hy hne hr h1 h2 => ?_⟩, hle, ⟨ho, ht, hu, Nat.le_of_eq hs.symm, fun c hc hn => hf c fun e => hn b k l hk hro hl e.symm⟩, fun c x l1 hx h1 => ?_⟩
  · unfold Phi.add at hb
    by_cases hc : c = s.n
    · subst hc; simp
    · rw [if_neg hc] at hb
      have := h.fresh c l1 hb
      simp; omega
  · rcases hget c x hx with ⟨rfl, rfl⟩ | ⟨hc, hcb, hx⟩
    · exact ⟨l', Phi.add_self _ _ _, hB⟩
    · obtain ⟨l1, h1, h2⟩ := h.blk c x hx
      exact ⟨l1, hle _ _ h1, h2.of_same hle (hf _ (fun e => h.inj b c k x l l1 hk hx (Ne.symm hcb) hro hl h1 e.symm))⟩
  · rcases hget c x hx with ⟨rfl, rfl⟩ | ⟨hc, hcb, hx'⟩
    · rcases hget d y hy with ⟨rfl, rfl⟩ | ⟨hd, hdb, hy'⟩
      · exact absurd rfl hne
      · rw [Phi.add_self] at h1; simp at h1; subst h1
        rw [hll]
        exact h.inj b d k y l l2 hk hy' (Ne.symm hdb) hro hl (hphi d y hy' l2 h2)
    · rcases hget d y hy with ⟨rfl, rfl⟩ | ⟨hd, hdb, hy'⟩
      · rw [Phi.add_self] at h2; simp at h2; subst h2
        rw [hll]
        exact h.inj c b x k l1 l hx' hk hcb hr (hphi c x hx' l1 h1) hl
      · exact h.inj c d x y l1 l2 hx' hy' hne hr (hphi c x hx' l1 h1) (hphi d y hy' l2 h2)
  · rcases hget c x hx with ⟨rfl, rfl⟩ | ⟨hc, hcb, hx⟩
    · rw [Phi.add_self] at h1; simp at h1; subst h1
      exact .inr ⟨b, k, l, hk, fun _ => hro, hl, hll.symm⟩
    · exact .inr ⟨c, x, l1, hx, id, hphi c x hx l1 h1, rfl⟩

/-! ### Loads -/

theorem cell_at {w : World} {g o : Nat} {cs : Array Value} {e : TypeId} {fz : Nat × Nat} (h : w.heap[g]? = some (.cells cs e fz)) : w.cell? ⟨g, o, none⟩ = cs[o]? := by
  simp [World.cell?, h]

theorem ldc_sound {φ : Phi} {s : St} {w : World} {v v' x : Value} (h : Rel φ s w) (hv : VRel φ v v') (hx : ldc s v = some x) :
    ∃ a x', v' = .pointer (some a) ∧ w.cell? a = some x' ∧ VRel φ x x' := by
  cases hv with
  | @ptr b i j l hl =>
    simp only [ldc] at hx
    cases hb : s.get b with
    | none => simp [hb] at hx
    | some k =>
      cases k with
      | map es ro => simp [hb] at hx
      | row sz rows ro =>
        simp only [hb] at hx
        cases hr : rows[i]? with
        | none => simp [hr] at hx
        | some r =>
          simp only [hr, Option.bind_some] at hx
          obtain ⟨l2, h2, hB⟩ := h.blk b _ hb
          rw [hl] at h2
          simp at h2
          subst h2
          obtain ⟨h1, h2, cs, e, fz, hh, h3, h4, h5⟩ := hB
          obtain ⟨u, hu, hru⟩ := (h4 i r hr).2.2 j x hx
          exact ⟨_, u, rfl, by rw [cell_at hh, h1]; exact hu, hru⟩
  | _ => simp [ldc] at hx

theorem lda_sound {φ : Phi} {s : St} {w : World} {n : Nat} {v v' x : Value} (h : Rel φ s w) (hv : VRel φ v v') (hx : lda s n v = some x) :
    ∃ a xs', v' = .pointer (some a) ∧ xs'.length = n ∧ (∀ j u, xs'[j]? = some u → w.cell? (a.add j) = some u) ∧ VRel φ x (.agg ⟨xs'⟩) := by
  cases hv with
  | @ptr b i j l hl =>
    simp only [lda] at hx
    cases hb : s.get b with
    | none => simp [hb] at hx
    | some k =>
      cases k with
      | map es ro => simp [hb] at hx
      | row sz rows ro =>
        simp only [hb] at hx
        cases hr : rows[i]? with
        | none => simp [hr] at hx
        | some r =>
          simp only [hr, Option.bind_some] at hx
          by_cases hn : j + n ≤ r.length
          · rw [if_pos hn] at hx
            simp at hx
            subst hx
            obtain ⟨l2, h2, hB⟩ := h.blk b _ hb
            rw [hl] at h2
            simp at h2
            subst h2
            obtain ⟨h1, h2, cs, e, fz, hh, h3, h4, h5⟩ := hB
            obtain ⟨g1, g2, g3⟩ := h4 i r hr
            have hlen : ((r.drop j).take n).length = n := by simp; omega
            have hex : ∀ m, m < n → ∃ u, cs[l.off + i * sz + j + m]? = some u ∧ VRel φ (r[j + m]?.getD undef) u := by
              intro m hm
              have hlt : j + m < r.length := by omega
              obtain ⟨u, hu, hru⟩ := g3 (j + m) r[j + m] (by simp [hlt])
              exact ⟨u, by rw [← Nat.add_assoc] at hu; exact hu, by simpa [hlt] using hru⟩
            have hsz : ∀ m, m < n → l.off + i * sz + j + m < cs.size := by
              intro m hm
              obtain ⟨u, hu, _⟩ := hex m hm
              rcases Nat.lt_or_ge (l.off + i * sz + j + m) cs.size with h | h
              · exact h
              · simp [Array.getElem?_eq_none h] at hu
            refine ⟨_, (List.range n).map (fun m => cs.getD (l.off + i * sz + j + m) undef), rfl, by simp, ?_, .agg (VsRel.of_get (by simp only [hlen, List.length_map, List.length_range]) ?_) (oneCs_take _ (oneCs_drop _ g2))⟩
            · intro m u hu
              rw [Addr.add_mid, cell_at hh, h1]
              have hm : m < n := by
                rcases Nat.lt_or_ge m n with h | h
                · exact h
                · simp [h] at hu
              have hs := hsz m hm
              simp [hm] at hu
              simp [hs] at hu
              simp [hs, hu]
            · intro m u hu
              have hm : m < n := by
                rcases Nat.lt_or_ge m n with h | h
                · exact h
                · rw [List.getElem?_eq_none (by omega)] at hu; simp at hu
              obtain ⟨u', hu', hru⟩ := hex m hm
              have hs := hsz m hm
              rw [List.getElem?_take, if_pos hm, List.getElem?_drop] at hu
              rw [hu] at hru
              refine ⟨u', ?_, by simpa using hru⟩
              simp [hm, Array.getD, hs]
              simpa [hs] using hu'
          · simp [hn] at hx
  | _ => simp [lda] at hx

/-! ### Stores -/

theorem row_len {φ : Phi} {l : Loc} {sz : Nat} {rows : List (List Value)} {ro : Bool} {w : World} (h : BRel φ l (.row sz rows ro) w) {i : Nat} {r : List Value} (hr : rows[i]? = some r) :
    l.sz = sz ∧ r.length = sz ∧ i < l.cap ∧ ∀ j, j ≤ sz → l.off + i * sz + j ≤ l.off + l.cap * sz := by
  obtain ⟨h1, h2, cs, e, fz, hh, h3, h4, h5⟩ := h
  have hi : i < rows.length := by
    rcases Nat.lt_or_ge i rows.length with h | h
    · exact h
    · simp [List.getElem?_eq_none h] at hr
  refine ⟨h1, (h4 i r hr).1, by omega, fun j hj => ?_⟩
  have : (i + 1) * sz ≤ l.cap * sz := Nat.mul_le_mul_right _ (by omega)
  rw [Nat.add_mul] at this
  omega

theorem sto_sound {φ : Phi} {s s' : St} {w : World} {v v' : Value} {vs vs' : List Value} (P : Program) (h : Rel φ s w) (hv : VRel φ v v') (hvs : VsRel φ vs vs') (h1 : oneCs vs = true)
    (hx : sto s v vs = some s') : ∃ a w', v' = .pointer (some a) ∧ (storeCells a vs').run P w = .ok () w' ∧ Step φ s w φ s' w' := by
  cases hv with
  | @ptr b i j l hl =>
    simp only [sto] at hx
    cases hb : s.get b with
    | none => simp [hb] at hx
    | some k =>
      cases k with
      | map es ro => simp [hb] at hx
      | row sz rows ro =>
        cases ro with
        | true => simp [hb] at hx
        | false =>
          simp only [hb] at hx
          cases hr : rows[i]? with
          | none => simp [hr] at hx
          | some r =>
            simp only [hr, Option.bind_some] at hx
            by_cases hn : j + vs.length ≤ r.length
            · rw [if_pos hn] at hx
              simp at hx
              subst hx
              obtain ⟨l2, h2, hB⟩ := h.blk b _ hb
              rw [hl] at h2
              simp at h2
              subst h2
              obtain ⟨g0, g1, g2, g3⟩ := row_len hB hr
              obtain ⟨k1, k2, cs, e, fz, hh, k3, k4, k5⟩ := hB
              have hfz := k5 rfl
              subst hfz
              have hvl := hvs.length
              have hle : l.off + i * sz + j + vs'.length ≤ cs.size := by
                have := g3 (j + vs.length) (by omega)
                omega
              have hone : ∀ x ∈ vs', x.oneCell' = true := by
                have ho := hvs.oneCs
                rw [h1] at ho
                intro x hx
                obtain ⟨m, hm⟩ := List.getElem?_of_mem hx
                have := oneCs_get ho hm
                cases x <;> simp_all [oneC, Value.oneCell']
              have hrun := run_storeCells_at P l.blk (l.off + i * sz + j) e vs' 0 cs w hh (by simpa using hle) hone
              refine ⟨⟨l.blk, l.off + i * l.sz + j, none⟩, _, rfl, by rw [k1]; exact hrun, put_step h hb rfl hl ?_ (fun c hc => setRow_other w l.blk c _ hc) (by simp) rfl rfl rfl⟩
              have hsz : (cs.toList.take (l.off + i * sz + j + 0) ++ vs' ++ cs.toList.drop (l.off + i * sz + j + 0 + vs'.length)).toArray.size = cs.size := by
                simp; omega
              refine ⟨k1, by simpa using k2, _, e, (0, 0), setRow_heap w l.blk cs _ e _ hh, by rw [hsz]; exact k3, fun m q hq => ?_, fun _ => rfl⟩
              rw [List.getElem?_set] at hq
              have hget : ∀ o, (cs.toList.take (l.off + i * sz + j + 0) ++ vs' ++ cs.toList.drop (l.off + i * sz + j + 0 + vs'.length)).toArray[o]? =
                  if l.off + i * sz + j ≤ o ∧ o < l.off + i * sz + j + vs'.length then vs'[o - (l.off + i * sz + j)]? else cs[o]? := by
                intro o
                simp only [Nat.add_zero, List.getElem?_toArray]
                by_cases ho : o < l.off + i * sz + j
                · rw [if_neg (by omega), List.append_assoc, List.getElem?_append_left (by simp; omega)]
                  simp [ho]
                · by_cases ho2 : o < l.off + i * sz + j + vs'.length
                  · rw [if_pos (by omega), List.append_assoc, List.getElem?_append_right (by simp; omega), List.getElem?_append_left (by simp; omega)]
                    congr 1
                    simp; omega
                  · rw [if_neg (by omega), List.append_assoc, List.getElem?_append_right (by simp; omega), List.getElem?_append_right (by simp; omega), List.getElem?_drop]
                    simp
                    congr 1
                    omega
              by_cases him : i = m
              · subst him
                simp only [if_true] at hq
                split at hq
                · simp at hq
                  subst hq
                  refine ⟨by rw [spl_length]; exact g1, oneCs_spl (k4 i r hr).2.1 h1 hn, fun q u hu => ?_⟩
                  rw [spl_get r j vs q hn] at hu
                  rw [hget]
                  by_cases hjq : j ≤ q ∧ q < j + vs.length
                  · rw [if_pos hjq] at hu
                    rw [if_pos (by omega)]
                    obtain ⟨u', hu1, hu2⟩ := hvs.get hu
                    exact ⟨u', by rw [← hu1]; congr 1; omega, hu2⟩
                  · rw [if_neg hjq] at hu
                    have hq : q < r.length := by
                      rcases Nat.lt_or_ge q r.length with h | h
                      · exact h
                      · simp [List.getElem?_eq_none h] at hu
                    rw [if_neg (by omega)]
                    exact (k4 i r hr).2.2 q u hu
                · simp at hq
              · rw [if_neg him] at hq
                obtain ⟨q1, q2, q3⟩ := k4 m q hq
                refine ⟨q1, q2, fun p u hu => ?_⟩
                rw [hget]
                have hp : p < q.length := by
                  rcases Nat.lt_or_ge p q.length with h | h
                  · exact h
                  · simp [List.getElem?_eq_none h] at hu
                have hmul : m * sz + sz ≤ i * sz ∨ i * sz + sz ≤ m * sz := by
                  rcases Nat.lt_or_ge m i with h | h
                  · left
                    have : (m + 1) * sz ≤ i * sz := Nat.mul_le_mul_right _ (by omega)
                    rw [Nat.add_mul] at this
                    omega
                  · right
                    have : (i + 1) * sz ≤ m * sz := Nat.mul_le_mul_right _ (by omega)
                    rw [Nat.add_mul] at this
                    omega
                rw [if_neg (by omega)]
                exact q3 p u hu
            · simp [hn] at hx
  | _ => simp [sto] at hx

end Go.Sim
