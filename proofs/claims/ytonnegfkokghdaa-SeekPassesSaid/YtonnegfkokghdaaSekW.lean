/-
  The search in a world of lists that do not change, some of whose peers are dead: the plain law.
-/
import Derived.Test.YtonnegfkokghdaaSekF
set_option linter.unusedSimpArgs false
set_option linter.unusedVariables false
set_option maxRecDepth 100000
set_option maxHeartbeats 2000000
namespace Go.Proofs.Ytonnegfkokghdaa
open Go.Sim Go.Sim.Bt

/-! ### Lists of distinct things -/

theorem nodup_le {α : Type} [DecidableEq α] : ∀ {l m : List α}, l.Nodup → (∀ x ∈ l, x ∈ m) → l.length ≤ m.length
  | [], m, _, _ => Nat.zero_le _
  | a :: l, m, hn, hs => by
    rw [List.nodup_cons] at hn
    have ha : a ∈ m := hs a (by simp)
    have h1 : (m.erase a).length = m.length - 1 := List.length_erase_of_mem ha
    have h0 : 0 < m.length := List.length_pos_of_mem ha
    have h2 : ∀ x ∈ l, x ∈ m.erase a := by
      intro x hx
      have hne : x ≠ a := by rintro rfl; exact hn.1 hx
      exact (List.mem_erase_of_ne hne).2 (hs x (by simp [hx]))
    have := nodup_le hn.2 h2
    simp only [List.length_cons]
    omega
theorem split_uniq {l p1 q1 p2 q2 : List Rf} {r1 r2 : Rf} (hp : l.Pairwise fun a b => a.id ≠ b.id) (h1 : l = p1 ++ r1 :: q1) (h2 : l = p2 ++ r2 :: q2) (hid : r1.id = r2.id) : p1 = p2 ∧ r1 = r2 ∧ q1 = q2 := by
  induction p1 generalizing l p2 with
  | nil =>
    cases p2 with
    | nil =>
      simp only [List.nil_append] at h1 h2
      rw [h1] at h2
      obtain ⟨a, b⟩ := List.cons.inj h2
      exact ⟨rfl, a, b⟩
    | cons x p2 =>
      exfalso
      simp only [List.nil_append, List.cons_append] at h1 h2
      rw [h1] at h2
      obtain ⟨a, b⟩ := List.cons.inj h2
      rw [h1, List.pairwise_cons] at hp
      exact hp.1 r2 (by rw [b]; simp) hid
  | cons x p1 ih =>
    cases p2 with
    | nil =>
      exfalso
      simp only [List.nil_append, List.cons_append] at h1 h2
      rw [h1] at h2
      obtain ⟨a, b⟩ := List.cons.inj h2
      rw [h1, List.pairwise_cons] at hp
      exact hp.1 r1 (by simp) (by rw [a]; exact hid.symm)
    | cons y p2 =>
      simp only [List.cons_append] at h1 h2
      rw [h1] at h2 hp
      obtain ⟨a, b⟩ := List.cons.inj h2
      rw [List.pairwise_cons] at hp
      obtain ⟨g1, g2, g3⟩ := ih hp.2 rfl b
      exact ⟨by rw [a, g1], g2, g3⟩

/-! ### Worlds -/

structure Wd where
  h : Nat
  L : List Rf
  dead : Int → Bool
open Classical in
noncomputable def inL (wl wb : Int) (r : Rf) : Bool := decide (BG r.ln r.bt wl wb)
def tailR (h : Int) : Rf := ⟨1, 3, 0, h, 0⟩
noncomputable def lst (W : Wd) (wl wb : Int) : List Rf := headR W.h :: (W.L.filter (inL wl wb) ++ [tailR W.h])
structure OkW (W : Wd) : Prop where
  h32 : W.h ≤ 32
  rk : ∀ r ∈ W.L, r.rk = 2
  vec : ∀ r ∈ W.L, r.ln = W.h ∧ 0 ≤ r.bt ∧ r.bt < ((2 ^ W.h : Nat) : Int)
  ids : ∀ r ∈ W.L, 2 ≤ r.id
  inj : W.L.Pairwise fun a b => a.id ≠ b.id
  ris : W.L.Pairwise fun a b => a.n < b.n
  hd : W.dead 0 = false
  td : W.dead 1 = false
/-- What a peer answers. -/
noncomputable def ansW (W : Wd) (id wl wb : Int) : Ans :=
  match (lst W wl wb).findIdx? fun r => decide (r.id = id) with
  | none => ⟨2, false, zR, zR, .slice none 0 0⟩
  | some i => ⟨if W.dead id = true then 3 else 1, false, if 0 < i then (lst W wl wb).getD (i - 1) zR else zR, (lst W wl wb).getD (i + 1) zR, .slice none 0 0⟩
theorem lst_mem {W : Wd} {wl wb : Int} {r : Rf} (h : r ∈ lst W wl wb) : r = headR W.h ∨ (r ∈ W.L ∧ BG r.ln r.bt wl wb) ∨ r = tailR W.h := by
  unfold lst inL at h
  simp only [List.mem_cons, List.mem_append, List.mem_filter, decide_eq_true_eq, List.mem_singleton, List.not_mem_nil, or_false] at h
  rcases h with h | h | h
  · exact .inl h
  · exact .inr (.inl h)
  · exact .inr (.inr h)
theorem lst_inj {W : Wd} (h : OkW W) (wl wb : Int) : (lst W wl wb).Pairwise fun a b => a.id ≠ b.id := by
  unfold lst
  rw [List.pairwise_cons]
  refine ⟨fun r hr => ?_, ?_⟩
  · simp only [List.mem_append, List.mem_filter, List.mem_singleton] at hr
    rcases hr with hr | rfl
    · have := h.ids r hr.1; simp only [headR]; omega
    · simp [headR, tailR]
  · rw [List.pairwise_append]
    refine ⟨h.inj.filter _, List.pairwise_singleton _ _, fun a ha b hb => ?_⟩
    simp only [List.mem_singleton] at hb
    subst hb
    have := h.ids a (List.mem_filter.1 ha).1
    simp only [tailR]; omega
theorem lst_ris {W : Wd} (h : OkW W) (wl wb : Int) : (lst W wl wb).Pairwise fun a b => lessK a.rk a.n b.rk b.n := by
  unfold lst
  rw [List.pairwise_cons]
  refine ⟨fun r hr => ?_, ?_⟩
  · simp only [List.mem_append, List.mem_filter, List.mem_singleton] at hr
    rcases hr with hr | rfl
    · have := h.rk r hr.1; simp only [headR, lessK]; omega
    · simp [headR, tailR, lessK]
  · rw [List.pairwise_append]
    refine ⟨?_, List.pairwise_singleton _ _, fun a ha b hb => ?_⟩
    · refine List.Pairwise.filter _ ?_
      refine List.Pairwise.imp_of_mem ?_ h.ris
      intro a b ha hb hab
      have := h.rk a ha; have := h.rk b hb
      unfold lessK; omega
    · simp only [List.mem_singleton] at hb
      subst hb
      have := h.rk a (List.mem_filter.1 ha).1
      simp only [tailR, lessK]; omega
theorem lst_okK {W : Wd} (h : OkW W) {wl wb : Int} {r : Rf} (hr : r ∈ lst W wl wb) : okK r.rk r.n := by
  rcases lst_mem hr with rfl | ⟨g, _⟩ | rfl
  · simp [headR, okK]
  · exact .inl (h.rk r g)
  · simp [tailR, okK]
theorem findIdx_split {p q : List Rf} {r : Rf} {l : List Rf} (hp : l.Pairwise fun a b => a.id ≠ b.id) (h : l = p ++ r :: q) : l.findIdx? (fun x => decide (x.id = r.id)) = some p.length := by
  subst h
  rw [List.findIdx?_append]
  have : p.findIdx? (fun x => decide (x.id = r.id)) = none := by
    rw [List.findIdx?_eq_none_iff]
    intro x hx
    rw [List.pairwise_append] at hp
    have := hp.2.2 x hx r (by simp)
    simp [this]
  rw [this]
  simp [List.findIdx?_cons]
theorem ansW_at {W : Wd} (h : OkW W) {wl wb : Int} {p q : List Rf} {r : Rf} (hs : lst W wl wb = p ++ r :: q) :
    ansW W r.id wl wb = ⟨if W.dead r.id = true then 3 else 1, false, p.getLastD zR, q.headD zR, .slice none 0 0⟩ := by
  unfold ansW
  rw [findIdx_split (lst_inj h wl wb) hs]
  simp only []
  congr 1
  · rw [hs]
    cases hp : p.length with
    | zero => rw [List.eq_nil_of_length_eq_zero hp]; simp
    | succ k =>
      have hne : p ≠ [] := by rintro rfl; simp at hp
      rw [if_pos (by omega), List.getD_eq_getElem?_getD, List.getElem?_append_left (by omega)]
      simp only [Nat.add_sub_cancel]
      have e2 : p[k]? = p.getLast? := by rw [List.getLast?_eq_getElem?, hp]; simp
      rw [e2, List.getLastD_eq_getLast?]
  · rw [hs, List.getD_eq_getElem?_getD, List.getElem?_append_right (by omega)]
    rw [show p.length + 1 - p.length = 1 by omega]
    cases q <;> rfl
/-- A shorter vector's list has all that a longer one's has. -/
theorem bg_half {L B : Int} {wl wb : Int} (h : BG L B wl wb) (hw : 0 < wl) : BG L B (wl - 1) ((wb.toNat / 2 : Nat) : Int) := by
  obtain ⟨h1, h2, h3, h4⟩ := h
  obtain ⟨n, d, e1, e2, g1, g2⟩ := id h2
  obtain ⟨n', d', e1', e2', g1', g2'⟩ := id h1
  subst e1 e2 e1' e2'
  have hn : 0 < n := by omega
  have hp : 2 ^ n = 2 ^ (n - 1) * 2 := by rw [← Nat.pow_succ]; congr 1; omega
  refine ⟨h1, ⟨n - 1, d / 2, by omega, by simp, by omega, by omega⟩, by omega, ?_⟩
  simp only [Int.toNat_natCast] at *
  have e3 : ((n : Int) - 1).toNat = n - 1 := by omega
  rw [e3, ← h4, Nat.div_div_eq_div_mul, ← Nat.pow_succ]
  congr 2
  omega
theorem lst_half {W : Wd} {wl wb : Int} {r : Rf} (hw : 0 < wl) (h : r ∈ lst W wl wb) : r ∈ lst W (wl - 1) ((wb.toNat / 2 : Nat) : Int) := by
  rcases lst_mem h with rfl | ⟨g1, g2⟩ | rfl
  · simp [lst]
  · unfold lst inL
    simp only [List.mem_cons, List.mem_append, List.mem_filter, decide_eq_true_eq]
    exact .inr (.inl ⟨g1, bg_half g2 hw⟩)
  · simp [lst]

/-! ### Wills -/

abbrev noW (tab : List (Wk × Rf)) (wl wb : Int) (r : Rf) : Prop := idxW tab ⟨r.id, wl, wb⟩ = none
theorem eqW_iff {a b : Wk} : eqW a b = true ↔ a = b := by
  cases a; cases b
  simp [eqW]
instance : DecidableEq Wk := fun a b => decidable_of_iff (eqW a b = true) eqW_iff
structure TabOk (W : Wd) (c : Cf) (tab : List (Wk × Rf)) : Prop where
  will : ∀ e ∈ tab, ∃ p r q, lst W e.1.l e.1.b = p ++ r :: q ∧ r.id = e.1.id ∧ W.dead r.id = true ∧ e.2 = q.headD zR
  nd : (tab.map (·.1)).Nodup
  pre : ∀ e ∈ tab, ∃ k : Nat, k ≤ W.h ∧ e.1.l = k ∧ e.1.b = ((c.st.bt.toNat / 2 ^ (W.h - k) : Nat) : Int)
theorem idx_some {tab : List (Wk × Rf)} {k : Wk} {i : Nat} (h : idxW tab k = some i) : ∃ e, tab[i]? = some e ∧ e.1 = k ∧ e ∈ tab := by
  obtain ⟨e, he⟩ := get_some (idx_lt h)
  unfold idxW at h
  rw [List.findIdx?_eq_some_iff_getElem] at h
  obtain ⟨hl, h1, _⟩ := h
  have he' := he
  rw [List.getElem?_eq_getElem hl] at he'
  cases he'
  exact ⟨_, he, (eqW_iff.1 h1).symm, List.getElem_mem hl⟩
theorem idx_none {tab : List (Wk × Rf)} {k : Wk} (h : idxW tab k = none) : k ∉ tab.map (·.1) := by
  unfold idxW at h
  rw [List.findIdx?_eq_none_iff] at h
  intro hk
  rw [List.mem_map] at hk
  obtain ⟨e, he, rfl⟩ := hk
  have := h e he
  rw [eqW_iff.2 rfl] at this
  cases this
/-- Where the wills lead: past dead ones. -/
theorem chase_w {W : Wd} {c : Cf} {tab : List (Wk × Rf)} {wl wb : Int} (hW : OkW W) (ht : TabOk W c tab) : ∀ {post pre : List Rf} {a : Rf}, lst W wl wb = pre ++ a :: post → (∃ y ∈ post, noW tab wl wb y) →
    ∃ D x mid rest, post = mid ++ x :: rest ∧ (∀ y ∈ mid, W.dead y.id = true) ∧ noW tab wl wb x ∧ Chase tab wl wb D a.rk a.n (post.headD zR) (some x) ∧ D ≤ post.length
  | [], pre, a, hs, he => by obtain ⟨y, hy, _⟩ := he; cases hy
  | r :: post, pre, a, hs, he => by
    have hris := lst_ris hW wl wb
    have k1 : okK r.rk r.n := lst_okK hW (show r ∈ lst W wl wb by rw [hs]; simp)
    have k2 : lessK a.rk a.n r.rk r.n := by
      rw [hs, List.pairwise_append] at hris
      exact (List.pairwise_cons.1 hris.2.1).1 r (by simp)
    cases hi : idxW tab ⟨r.id, wl, wb⟩ with
    | none => exact ⟨0, r, [], post, rfl, (fun y hy => by cases hy), hi, .here k1 k2 hi, Nat.zero_le _⟩
    | some i =>
      obtain ⟨e, e1, e2, e3⟩ := idx_some hi
      obtain ⟨p, r', q, g1, g2, g3, g4⟩ := ht.will e e3
      rw [e2] at g1 g2
      simp only at g1 g2
      have hs' : lst W wl wb = (pre ++ [a]) ++ r :: post := by rw [hs]; simp
      obtain ⟨u1, u2, u3⟩ := split_uniq (lst_inj hW wl wb) g1 hs' g2
      subst u2 u3
      have he' : ∃ y ∈ q, noW tab wl wb y := by
        obtain ⟨y, hy, hn⟩ := he
        rcases List.mem_cons.1 hy with rfl | hy
        · unfold noW at hn; rw [hi] at hn; cases hn
        · exact ⟨y, hy, hn⟩
      obtain ⟨D, x, mid, rest, f1, f2, f3, f4, f5⟩ := chase_w hW ht hs' he'
      refine ⟨D + 1, x, r' :: mid, rest, by rw [f1]; rfl, ?_, f3, .next k1 k2 hi e1 (by rw [g4]; exact f4), by simp only [List.length_cons]; omega⟩
      intro y hy
      rcases List.mem_cons.1 hy with rfl | hy
      · exact g3
      · exact f2 y hy
theorem tail_noW {W : Wd} {c : Cf} {tab : List (Wk × Rf)} (hW : OkW W) (ht : TabOk W c tab) {wl wb : Int} : noW tab wl wb (tailR W.h) := by
  cases hi : idxW tab ⟨(tailR W.h).id, wl, wb⟩ with
  | none => exact hi
  | some i =>
    obtain ⟨e, e1, e2, e3⟩ := idx_some hi
    obtain ⟨p, r', q, g1, g2, g3, g4⟩ := ht.will e e3
    rw [e2] at g2
    rw [g2] at g3
    simp only [tailR] at g3
    rw [hW.td] at g3
    cases g3
/-- Who is not the tail has somebody to the right, and the tail is there. -/
theorem post_tail {W : Wd} (hW : OkW W) {wl wb : Int} {pre post : List Rf} {a : Rf} (hs : lst W wl wb = pre ++ a :: post) (ha : a.rk ≠ 3) : tailR W.h ∈ post := by
  have hl : (lst W wl wb).getLast? = some (tailR W.h) := by
    unfold lst
    rw [List.getLast?_cons, List.getLast?_append]
    simp
  rw [hs, List.getLast?_append] at hl
  cases post with
  | nil => simp at hl; rw [hl] at ha; simp [tailR] at ha
  | cons x post =>
    rw [List.getLast?_cons_cons] at hl
    have h2 : (x :: post).getLast? = some (tailR W.h) := by
      cases hq : (x :: post).getLast? with
      | none => simp at hq
      | some y => rw [hq] at hl; simpa using hl
    exact List.mem_of_getLast? h2
end Go.Proofs.Ytonnegfkokghdaa
