/-
  New memory, append, copy.
-/
import Derived.Test.YtkkgegocliobpaaSimD
import Derived.Laws.BytesString
namespace Go.Sim

/-! ### Rows end to end -/

theorem flat_len : ∀ {rows : List (List Value)} {sz : Nat}, (∀ r ∈ rows, r.length = sz) → rows.flatten.length = rows.length * sz
  | [], sz, _ => by simp
  | r :: rows, sz, h => by
    have := flat_len (rows := rows) (sz := sz) fun x hx => h x (by simp [hx])
    simp only [List.flatten_cons, List.length_append, this, h r (by simp), List.length_cons]
    rw [Nat.add_mul]; omega

theorem flat_get : ∀ {rows : List (List Value)} {sz : Nat}, (∀ r ∈ rows, r.length = sz) → ∀ {i j : Nat} {r : List Value} {v : Value}, rows[i]? = some r → r[j]? = some v → rows.flatten[i * sz + j]? = some v
  | [], sz, _, i, j, r, v, h, _ => by simp at h
  | q :: rows, sz, hl, 0, j, r, v, h, hv => by
    simp at h
    subst h
    have hj : j < q.length := by
      rcases Nat.lt_or_ge j q.length with h | h
      · exact h
      · simp [List.getElem?_eq_none h] at hv
    simp only [List.flatten_cons, Nat.zero_mul, Nat.zero_add]
    rw [List.getElem?_append_left hj]
    exact hv
  | q :: rows, sz, hl, i + 1, j, r, v, h, hv => by
    have hq := hl q (by simp)
    have := flat_get (rows := rows) (sz := sz) (fun x hx => hl x (by simp [hx])) (i := i) (j := j) (by simpa using h) hv
    simp only [List.flatten_cons]
    rw [List.getElem?_append_right (by rw [hq, Nat.add_mul]; omega), ← this]
    congr 1
    rw [hq, Nat.add_mul]; omega

theorem mem_get {α : Type} {l : List α} {x : α} (h : x ∈ l) : ∃ i : Nat, l[i]? = some x := List.getElem?_of_mem h

/-- What rows read from a slice or a text stand for. -/
theorem rows_sound {φ : Phi} {s : St} {w : World} {sz n : Nat} {x x' : Value} {rows : List (List Value)} (P : Program) (h : Rel φ s w) (hv : VRel φ x x') (hx : rowsOf s sz n x = some rows) :
    rows.length = n ∧ (∀ r ∈ rows, r.length = sz ∧ oneCs r = true) ∧ ∃ xs', xs'.length = n * sz ∧ VsRel φ rows.flatten xs' ∧
      ∀ w2 : World, w2.heap = w.heap → (Builtin.firstCells sz n x').run P w2 = .ok ⟨xs'⟩ w2 := by
  cases hv with
  | snil =>
    simp only [rowsOf] at hx
    split at hx
    · rename_i h0
      simp at hx
      subst hx; subst h0
      exact ⟨rfl, by simp, [], by simp, .nil, fun w2 _ => by simp [Builtin.firstCells]⟩
    · simp at hx
  | str t =>
    simp only [rowsOf] at hx
    by_cases h1 : sz = 1 ∧ n ≤ t.size
    · rw [if_pos h1] at hx
      obtain ⟨rfl, hn⟩ := h1
      have hx := Option.some.inj hx
      subst hx
      have hlen : (t.data.toList.take n).length = n := by
        rw [List.length_take, Array.length_toList]
        exact Nat.min_eq_left hn
      have hfl : ∀ (l : List UInt8), (l.map fun b => [Value.int .u8 b.toNat]).flatten = l.map fun b => Value.int .u8 b.toNat := by
        intro l
        induction l with
        | nil => rfl
        | cons b l ih => simp only [List.map_cons, List.flatten_cons, ih, List.singleton_append]
      refine ⟨by rw [List.length_map]; exact hlen, fun r hr => ?_, (t.data.toList.take n).map (fun b => .int .u8 b.toNat), by rw [List.length_map, hlen]; omega, ?_, fun w2 _ => ?_⟩
      · obtain ⟨b, _, rfl⟩ := List.mem_map.1 hr
        exact ⟨rfl, rfl⟩
      · rw [hfl]
        refine VsRel.of_get rfl fun i v hv => ⟨v, hv, ?_⟩
        rw [List.getElem?_map] at hv
        cases hb : (t.data.toList.take n)[i]? with
        | none => simp [hb] at hv
        | some b => simp only [hb, Option.map_some, Option.some.injEq] at hv; subst hv; exact .int _ _
      · simp only [Builtin.firstCells, Sem.run_pure]
        congr 1
        apply Array.ext'
        simp [ByteArray.extract, ByteArray.copySlice]
    · simp [h1] at hx
  | @slice b i len e c a l hl h1 h2 h3 h4 =>
    simp only [rowsOf] at hx
    cases hb : s.get b with
    | none => simp [hb] at hx
    | some k =>
      cases k with
      | map es ro => simp [hb] at hx
      | row sz' rws ro =>
        simp only [hb] at hx
        by_cases hc : sz' = sz ∧ n ≤ len ∧ i + n ≤ rws.length
        · rw [if_pos hc] at hx
          obtain ⟨rfl, hnl, hin⟩ := hc
          simp at hx
          subst hx
          obtain ⟨l2, g2, hB⟩ := h.blk b _ hb
          rw [hl] at g2
          simp at g2
          subst g2
          obtain ⟨k1, k2, cs, e', fz, hh, k3, k4, k5⟩ := hB
          have hrow : ∀ m, m < n → ∃ r, ((rws.drop i).take n)[m]? = some r ∧ rws[i + m]? = some r := by
            intro m hm
            have : i + m < rws.length := by omega
            exact ⟨rws[i + m], by rw [List.getElem?_take, if_pos hm, List.getElem?_drop, List.getElem?_eq_getElem this], List.getElem?_eq_getElem this⟩
          have hmem : ∀ r ∈ (rws.drop i).take n, r.length = sz' ∧ oneCs r = true := by
            intro r hr
            obtain ⟨m, hm⟩ := mem_get hr
            have hmn : m < n := by
              rcases Nat.lt_or_ge m n with h | h
              · exact h
              · rw [List.getElem?_take, if_neg (by omega)] at hm; simp at hm
            obtain ⟨r', e1, e2⟩ := hrow m hmn
            rw [hm] at e1
            simp at e1
            subst e1
            exact ⟨(k4 _ r e2).1, (k4 _ r e2).2.1⟩
          have hlen : ((rws.drop i).take n).length = n := by simp; omega
          have hfl : ((rws.drop i).take n).flatten.length = n * sz' := by rw [flat_len fun r hr => (hmem r hr).1, hlen]
          -- the cells
          have hcell : ∀ m, m < n * sz' → ∃ u, cs[l.off + i * sz' + m]? = some u ∧ VRel φ (((rws.drop i).take n).flatten[m]?.getD undef) u := by
            intro m hm
            have hs0 : 0 < sz' := by
              rcases Nat.eq_zero_or_pos sz' with h | h
              · subst h; simp at hm
              · exact h
            have hq : m / sz' < n := (Nat.div_lt_iff_lt_mul hs0).2 hm
            obtain ⟨r, e1, e2⟩ := hrow (m / sz') hq
            have hrl := (k4 _ r e2).1
            have hj : m % sz' < r.length := by rw [hrl]; exact Nat.mod_lt _ hs0
            have hv : r[m % sz']? = some r[m % sz'] := List.getElem?_eq_getElem hj
            obtain ⟨u, hu, hru⟩ := (k4 _ r e2).2.2 _ _ hv
            have hdm : m / sz' * sz' + m % sz' = m := by rw [Nat.mul_comm]; exact Nat.div_add_mod m sz'
            refine ⟨u, ?_, ?_⟩
            · rw [← hu]; congr 1
              rw [Nat.add_mul]; omega
            · have := flat_get (fun r hr => (hmem r hr).1) e1 hv
              rw [hdm] at this
              rw [this]
              simpa using hru
          refine ⟨hlen, hmem, (List.range (n * sz')).map (fun m => cs.getD (l.off + i * sz' + m) undef), by simp, VsRel.of_get (by simp only [hfl, List.length_map, List.length_range]) ?_, fun w2 hw2 => ?_⟩
          · intro m v hv
            have hm : m < n * sz' := by
              rcases Nat.lt_or_ge m (n * sz') with h | h
              · exact h
              · rw [List.getElem?_eq_none (by omega)] at hv; simp at hv
            obtain ⟨u, hu, hru⟩ := hcell m hm
            rw [hv] at hru
            refine ⟨u, ?_, by simpa using hru⟩
            have hlt : l.off + i * sz' + m < cs.size := by
              rcases Nat.lt_or_ge (l.off + i * sz' + m) cs.size with h | h
              · exact h
              · simp [Array.getElem?_eq_none h] at hu
            simp [hm, hlt]
            simpa [hlt] using hu
          · simp only [Builtin.firstCells]
            rcases Nat.eq_zero_or_pos (n * sz') with h0 | h0
            · rw [h0]
              simp [loadCells, loadCellsFrom]
            · have hc0 : c ≠ 0 := by
                rcases Nat.eq_zero_or_pos n with h | h
                · subst h; simp at h0
                · omega
              rw [h3 hc0]
              have := run_loadCells (P := P) w2 ⟨l.blk, l.off + i * l.sz, none⟩ (n * sz') (fun m => cs.getD (l.off + i * sz' + m) undef) (fun m hm => by
                obtain ⟨u, hu, _⟩ := hcell m hm
                have hlt : l.off + i * sz' + m < cs.size := by
                  rcases Nat.lt_or_ge (l.off + i * sz' + m) cs.size with h | h
                  · exact h
                  · simp [Array.getElem?_eq_none h] at hu
                rw [Addr.add_mid, cell_at (hw2 ▸ hh), k1]
                simp [hlt])
              rw [this]
        · simp [hc] at hx
  | _ => simp [rowsOf] at hx

/-! ### New memory -/

theorem alc_sound {φ : Phi} {s s' : St} {w : World} {cs cs' : List Value} {r : Value} (t : TypeId) (h : Rel φ s w) (hv : VsRel φ cs cs') (h1 : oneCs cs = true) (hx : alc s cs = some (r, s')) :
    ∃ φ', VRel φ' r (.pointer (some ⟨w.heap.size, 0, none⟩)) ∧ Step φ s w φ' s' (w.alloc (.cells ⟨cs'⟩ t)) := by
  simp only [alc, Option.some.injEq, Prod.mk.injEq] at hx
  obtain ⟨rfl, rfl⟩ := hx
  let l : Loc := ⟨w.heap.size, 0, cs.length, 1⟩
  refine ⟨φ.add s.n l, ?_, new_step (l := l) h (Nat.le_refl _) ?_ (fun c hc => heap_alloc_old w _ c hc) (by simp) rfl rfl rfl (fun a _ => Go.RowKit.frozen?_alloc_cells w _ _ a)⟩
  · have := VRel.ptr (l := l) (i := 0) (j := 0) (Phi.add_self φ s.n l)
    simpa [l] using this
  · refine ⟨rfl, by simp [l], ⟨cs'⟩, t, (0, 0), heap_alloc_new w _, by simp [l, hv.length], fun i q hq => ?_, fun _ => rfl⟩
    cases i with
    | zero =>
      simp at hq
      subst hq
      refine ⟨rfl, h1, fun j v hjv => ?_⟩
      obtain ⟨u, hu, hr⟩ := hv.get hjv
      exact ⟨u, by simpa [l] using hu, hr.mono (Phi.le_add h l)⟩
    | succ i => simp at hq

theorem als_sound {φ : Phi} {s s' : St} {w : World} {sz len : Nat} {rows : List (List Value)} {cs' : List Value} {r : Value} (t : TypeId) (h : Rel φ s w)
    (hr : ∀ q ∈ rows, q.length = sz ∧ oneCs q = true) (hv : VsRel φ rows.flatten cs') (hl : len ≤ rows.length) (hx : als s sz len rows = some (r, s')) :
    ∃ φ', VRel φ' r (.slice (some ⟨w.heap.size, 0, none⟩) len rows.length) ∧ Step φ s w φ' s' (w.alloc (.cells ⟨cs'⟩ t)) := by
  simp only [als, Option.some.injEq, Prod.mk.injEq] at hx
  obtain ⟨rfl, rfl⟩ := hx
  let l : Loc := ⟨w.heap.size, 0, sz, rows.length⟩
  have hcl : cs'.length = rows.length * sz := by rw [← hv.length, flat_len fun q hq => (hr q hq).1]
  refine ⟨φ.add s.n l, ?_, new_step (l := l) h (Nat.le_refl _) ?_ (fun c hc => heap_alloc_old w _ c hc) (by simp) rfl rfl rfl (fun a _ => Go.RowKit.frozen?_alloc_cells w _ _ a)⟩
  · exact VRel.slice (l := l) (i := 0) (Phi.add_self _ _ _) hl (by simp [l]) (fun _ => by simp [l]) (.inr rfl)
  · refine ⟨rfl, by simp [l], ⟨cs'⟩, t, (0, 0), heap_alloc_new w _, by simp [l, hcl], fun i q hq => ?_, fun _ => rfl⟩
    have hm := List.mem_of_getElem? hq
    refine ⟨(hr q hm).1, (hr q hm).2, fun j v hjv => ?_⟩
    have := flat_get (fun q hq => (hr q hq).1) hq hjv
    obtain ⟨u, hu, hr⟩ := hv.get this
    exact ⟨u, by simpa [l] using hu, hr.mono (Phi.le_add h l)⟩

end Go.Sim
