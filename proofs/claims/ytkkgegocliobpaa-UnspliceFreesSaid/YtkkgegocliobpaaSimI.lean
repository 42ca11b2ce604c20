/-
  Aggregates, new slices, copies, texts of bytes, maps.
-/
import Derived.Test.YtkkgegocliobpaaSimH
import Derived.Laws.BytesArg
set_option linter.unusedSimpArgs false
namespace Go.Sim

theorem spl_cons : ∀ (l : List Value) (j : Nat) (v : Value) (vs : List Value), j < l.length → spl l j (v :: vs) = spl (l.set j v) (j + 1) vs
  | [], j, v, vs, h => by simp at h
  | x :: l, 0, v, vs, _ => by simp [spl]
  | x :: l, j + 1, v, vs, h => by
    have := spl_cons l j v vs (by simpa using h)
    simp [spl, this]

theorem foldl_spl (off : Nat) : ∀ (l : List Value) (k : Nat) (cs : Array Value), off + k + l.length ≤ cs.size →
    (l.zipIdx k).foldl (fun cs p => cs.setIfInBounds (off + p.2) p.1) cs = ⟨spl cs.toList (off + k) l⟩
  | [], k, cs, _ => by
    have : spl cs.toList (off + k) [] = cs.toList := by
      generalize cs.toList = l
      generalize off + k = j
      induction l generalizing j with
      | nil => cases j <;> simp [spl]
      | cons x l ih => cases j <;> simp [spl, ih]
    simp [this]
  | v :: l, k, cs, h => by
    simp only [List.length_cons] at h
    have := foldl_spl off l (k + 1) (cs.setIfInBounds (off + k) v) (by simp; omega)
    simp only [List.zipIdx_cons, List.foldl_cons, this]
    rw [spl_cons _ _ _ _ (by simp; omega)]
    congr 1
    simp [Nat.add_assoc]

theorem fill_step {place : Nat → Option (Nat × Nat)} {i off n : Nat} {v : Value} {rest : List (Nat × Value)} {cells : Array Value} (hp : place i = some (off, n)) (hn : (cellsL v).length = n) (hle : off + n ≤ cells.size) :
    Instr.fill place cells ((i, v) :: rest) = Instr.fill place ⟨spl cells.toList off (cellsL v)⟩ rest := by
  have hl : v.cells.toList = cellsL v := cells_toList v
  have hsz : v.cells.size = n := by rw [← hn, ← hl]; simp
  simp only [Instr.fill, hp]
  rw [if_neg (by simp [hsz]; omega)]
  congr 1
  have := foldl_spl off (cellsL v) 0 cells (by omega)
  rw [Nat.add_zero] at this
  rw [← this, ← hl, ← Array.foldl_toList]
  simp

/-- An aggregate out of parts, as the model fills it. -/
theorem bld_sound {φ : Phi} {place : Nat → Option (Nat × Nat)} : ∀ (ps ps' : List (Nat × Value)) (qs : List (Nat × Nat × Value)) (acc acc' : List Value) (r : Value),
    ps.length = qs.length → (∀ (k i : Nat) (v : Value), ps[k]? = some (i, v) → ∃ off n, qs[k]? = some (off, n, v) ∧ place i = some (off, n)) →
    ps.length = ps'.length → (∀ (k i : Nat) (v : Value), ps[k]? = some (i, v) → ∃ v', ps'[k]? = some (i, v') ∧ VRel φ v v') →
    VsRel φ acc acc' → oneCs acc = true → bld acc qs = some r → ∃ cs', Instr.fill place ⟨acc'⟩ ps' = some ⟨cs'⟩ ∧ VRel φ r (.agg ⟨cs'⟩)
  | [], [], [], acc, acc', r, _, _, _, _, ha, h1, hb => by
    simp only [bld, Option.some.injEq] at hb
    subst hb
    exact ⟨acc', rfl, .agg ha h1⟩
  | (i, v) :: ps, (i', v') :: ps', (off, n, u) :: qs, acc, acc', r, h1, h2, h3, h4, ha, ho, hb => by
    obtain ⟨off', n', e1, hp⟩ := h2 0 i v rfl
    simp only [List.getElem?_cons_zero, Option.some.injEq, Prod.mk.injEq] at e1
    obtain ⟨rfl, rfl, rfl⟩ := e1
    obtain ⟨v'', e2, hv⟩ := h4 0 i u rfl
    simp only [List.getElem?_cons_zero, Option.some.injEq, Prod.mk.injEq] at e2
    obtain ⟨rfl, rfl⟩ := e2
    simp only [bld] at hb
    cases hbx : bx u with
    | none => simp [hbx] at hb
    | some cs =>
      simp only [hbx, Option.bind_some] at hb
      split at hb
      · rename_i hc
        obtain ⟨b1, b2, b3⟩ := bx_rel hv hbx
        have hlen : (cellsL v').length = n := by rw [← b1.length]; exact hc.1
        have hal : acc'.length = acc.length := ha.length.symm
        obtain ⟨cs', g1, g2⟩ := bld_sound ps ps' qs (spl acc off cs) (spl acc' off (cellsL v')) r (by simpa using h1) (fun k i v hk => h2 (k + 1) i v (by simpa using hk)) (by simpa using h3)
          (fun k i v hk => h4 (k + 1) i v (by simpa using hk)) (ha.spl off b1) (oneCs_spl ho b2 (by rw [hc.1]; exact hc.2)) hb
        refine ⟨cs', ?_, g2⟩
        rw [fill_step hp hlen (by simp [hal]; exact hc.2)]
        exact g1
      · simp at hb
  | [], _ :: _, _, _, _, _, _, _, h, _, _, _, _ => by simp at h
  | _ :: _, [], _, _, _, _, _, _, h, _, _, _, _ => by simp at h
  | [], _, _ :: _, _, _, _, h, _, _, _, _, _, _ => by simp at h
  | _ :: _, _, [], _, _, _, h, _, _, _, _, _, _ => by simp at h

section
variable {P : Program} (w : World)

theorem run_places : ∀ (fs : List Field), (fs.all fun f => (sizeT P f.type).isSome) = true →
    (fs.mapM (fun f => do pure (f.offset, ← sizeOf f.type)) : Sem (List (Nat × Nat))).run P w = .ok (fs.map fun f => (f.offset, (sizeT P f.type).getD 0)) w
  | [], _ => by simp
  | f :: fs, h => by
    simp only [List.all_cons, Bool.and_eq_true] at h
    obtain ⟨n, hn⟩ := Option.isSome_iff_exists.1 h.1
    have ih := run_places fs h.2
    simp only [List.mapM_cons, Sem.run_bind, run_sizeOf w hn, Result.andThen_ok, Sem.run_pure, ih, List.map_cons, hn, Option.getD_some]

theorem build_struct {φ : Phi} {t : TypeId} {fs : Array Field} {z : Value} {ps ps' : List (Nat × Value)} {qs : List (Nat × Nat × Value)} {r : Value} (ht : P.underlying t = some (.struct fs)) (hz : zeroT P t = some z) (hpz : plainV z = true)
    (hone : oneCs (cellsL z) = true) (hall : (fs.toList.all fun f => (sizeT P f.type).isSome) = true) (hq : opR.mapFields P fs.toList ps = some qs)
    (hps : ps.length = ps'.length) (hrel : ∀ (k i : Nat) (v : Value), ps[k]? = some (i, v) → ∃ v', ps'[k]? = some (i, v') ∧ VRel φ v v') (hb : bld (cellsL z) qs = some r) :
    ∃ r', (Instr.build t ps'.toArray).run P w = .ok r' w ∧ VRel φ r r' := by
  have hmap : ∀ (ps : List (Nat × Value)) (qs : List (Nat × Nat × Value)), opR.mapFields P fs.toList ps = some qs →
      ps.length = qs.length ∧ ∀ (k i : Nat) (v : Value), ps[k]? = some (i, v) → ∃ off n, qs[k]? = some (off, n, v) ∧ (fs.toList.map fun f => (f.offset, (sizeT P f.type).getD 0))[i]? = some (off, n) := by
    intro ps
    induction ps with
    | nil => intro qs h; simp only [opR.mapFields, Option.some.injEq] at h; subst h; simp
    | cons p ps ih =>
      obtain ⟨i, v⟩ := p
      intro qs h
      simp only [opR.mapFields] at h
      cases hf : fs.toList[i]? with
      | none => rw [hf] at h; simp at h
      | some f =>
        rw [hf] at h
        simp only at h
        cases hn : sizeT P f.type with
        | none => rw [hn] at h; simp at h
        | some n =>
          cases hr : opR.mapFields P fs.toList ps with
          | none => rw [hn, hr] at h; simp at h
          | some qs' =>
            rw [hn, hr] at h
            simp only [Option.some.injEq] at h
            subst h
            obtain ⟨h1, h2⟩ := ih qs' hr
            refine ⟨by simp [h1], fun k i' v' hk => ?_⟩
            cases k with
            | zero =>
              simp only [List.getElem?_cons_zero, Option.some.injEq, Prod.mk.injEq] at hk
              obtain ⟨rfl, rfl⟩ := hk
              exact ⟨f.offset, n, rfl, by rw [List.getElem?_map, hf]; simp [hn]⟩
            | succ k => simpa using h2 k i' v' (by simpa using hk)
  obtain ⟨m1, m2⟩ := hmap ps qs hq
  obtain ⟨cs', g1, g2⟩ := bld_sound (place := ((fs.toList.map fun f => (f.offset, (sizeT P f.type).getD 0))[·]?)) ps ps' qs (cellsL z) (cellsL z) r m1 m2 hps hrel (VsRel.zero hpz) hone hb
  refine ⟨_, ?_, g2⟩
  have hzc : z.cells = ⟨cellsL z⟩ := by apply Array.ext'; simpa using cells_toList z
  have hpl := run_places (P := P) w fs.toList hall
  have hm : (fs.mapM (fun f => do pure (f.offset, ← sizeOf f.type)) : Sem (Array (Nat × Nat))).run P w = .ok (fs.toList.map fun f => (f.offset, (sizeT P f.type).getD 0)).toArray w := by
    have : fs = fs.toList.toArray := by simp
    rw [this, List.mapM_toArray, Sem.run_map, hpl]
    simp
  simp only [Instr.build, Sem.run_bind, run_zeroValue w hz, Result.andThen_ok, run_underlying ht, hm, hzc]
  simp only [List.getElem?_toArray] at *
  rw [g1]
  simp

theorem build_array {φ : Phi} {t e : TypeId} {m n : Nat} {z : Value} {ps ps' : List (Nat × Value)} {r : Value} (ht : P.underlying t = some (.array m e)) (hz : zeroT P t = some z) (hpz : plainV z = true)
    (hone : oneCs (cellsL z) = true) (hn : sizeT P e = some n)
    (hps : ps.length = ps'.length) (hrel : ∀ (k i : Nat) (v : Value), ps[k]? = some (i, v) → ∃ v', ps'[k]? = some (i, v') ∧ VRel φ v v') (hb : bld (cellsL z) (ps.map fun q => (q.1 * n, n, q.2)) = some r) :
    ∃ r', (Instr.build t ps'.toArray).run P w = .ok r' w ∧ VRel φ r r' := by
  obtain ⟨cs', g1, g2⟩ := bld_sound (place := fun i => some (i * n, n)) ps ps' (ps.map fun q => (q.1 * n, n, q.2)) (cellsL z) (cellsL z) r (by simp) (fun k i v hk => ⟨i * n, n, by simp [hk], rfl⟩) hps hrel (VsRel.zero hpz) hone hb
  refine ⟨_, ?_, g2⟩
  have hzc : z.cells = ⟨cellsL z⟩ := by apply Array.ext'; simpa using cells_toList z
  simp only [Instr.build, Sem.run_bind, run_zeroValue w hz, Result.andThen_ok, run_underlying ht, run_sizeOf w hn, hzc]
  rw [g1]
  simp

/-! ### New slices -/

theorem set_flat : ∀ (rows : List (List Value)) (n i : Nat) (cs : List Value), (∀ r ∈ rows, r.length = n) → cs.length = n → i < rows.length → (rows.set i cs).flatten = spl rows.flatten (i * n) cs
  | [], n, i, cs, _, _, h => by simp at h
  | r :: rows, n, 0, cs, hl, hc, _ => by
    have hr := hl r (by simp)
    simp only [List.set_cons_zero, List.flatten_cons, Nat.zero_mul]
    have : ∀ (a c b : List Value), a.length = c.length → spl (a ++ b) 0 c = c ++ b := by
      intro a
      induction a with
      | nil => intro c b h; have : c = [] := List.length_eq_zero_iff.1 h.symm; subst this; cases b <;> simp [spl]
      | cons x a ih =>
        intro c b h
        cases c with
        | nil => simp at h
        | cons y c => simp [spl, ih c b (by simpa using h)]
    rw [this r cs _ (by omega)]
  | r :: rows, n, i + 1, cs, hl, hc, h => by
    have hr := hl r (by simp)
    have ih := set_flat rows n i cs (fun x hx => hl x (by simp [hx])) hc (by simpa using h)
    simp only [List.set_cons_succ, List.flatten_cons, ih]
    have : ∀ (a b c : List Value) (k : Nat), spl (a ++ b) (a.length + k) c = a ++ spl b k c := by
      intro a
      induction a with
      | nil => intro b c k; simp
      | cons x a ih =>
        intro b c k
        have e : (x :: a).length + k = (a.length + k) + 1 := by simp; omega
        rw [e]
        simp [spl, ih]
    rw [show (i + 1) * n = r.length + i * n by rw [hr, Nat.add_mul]; omega, this]

theorem bls_sound {φ : Phi} {n : Nat} : ∀ (ps ps' : List (Nat × Value)) (acc rows : List (List Value)) (acc' : List Value),
    ps.length = ps'.length → (∀ (k i : Nat) (v : Value), ps[k]? = some (i, v) → ∃ v', ps'[k]? = some (i, v') ∧ VRel φ v v') →
    (∀ r ∈ acc, r.length = n ∧ oneCs r = true) → VsRel φ acc.flatten acc' → bls n acc ps = some rows →
    ∃ cs', Instr.fill (fun i => some (i * n, n)) ⟨acc'⟩ ps' = some ⟨cs'⟩ ∧ VsRel φ rows.flatten cs' ∧ (∀ r ∈ rows, r.length = n ∧ oneCs r = true) ∧ rows.length = acc.length
  | [], [], acc, rows, acc', _, _, h3, h4, hb => by
    simp only [bls, Option.some.injEq] at hb
    subst hb
    exact ⟨acc', rfl, h4, h3, rfl⟩
  | (i, v) :: ps, (i', v') :: ps', acc, rows, acc', h1, h2, h3, h4, hb => by
    obtain ⟨v'', e2, hv⟩ := h2 0 i v rfl
    simp only [List.getElem?_cons_zero, Option.some.injEq, Prod.mk.injEq] at e2
    obtain ⟨rfl, rfl⟩ := e2
    simp only [bls] at hb
    cases hbx : bx v with
    | none => simp [hbx] at hb
    | some cs =>
      simp only [hbx, Option.bind_some] at hb
      split at hb
      · rename_i hc
        obtain ⟨b1, b2, b3⟩ := bx_rel hv hbx
        have hlen : (cellsL v').length = n := by rw [← b1.length]; exact hc.1
        have hfl : acc.flatten.length = acc.length * n := flat_len fun r hr => (h3 r hr).1
        have hal : acc'.length = acc.length * n := by rw [← h4.length, hfl]
        have hin : i' * n + n ≤ acc.length * n := by
          have : (i' + 1) * n ≤ acc.length * n := Nat.mul_le_mul_right _ (by omega)
          rw [Nat.add_mul] at this; omega
        have hset := set_flat acc n i' cs (fun r hr => (h3 r hr).1) hc.1 hc.2
        obtain ⟨cs', g1, g2, g3, g4⟩ := bls_sound ps ps' (acc.set i' cs) rows (spl acc' (i' * n) (cellsL v')) (by simpa using h1) (fun k i v hk => h2 (k + 1) i v (by simpa using hk))
          (fun r hr => by rcases List.mem_or_eq_of_mem_set hr with hr | rfl; exact h3 r hr; exact ⟨hc.1, b2⟩) (by rw [hset]; exact h4.spl _ b1) hb
        refine ⟨cs', ?_, g2, g3, by simpa using g4⟩
        rw [fill_step (place := fun i => some (i * n, n)) rfl hlen (by simp [hal]; exact hin)]
        exact g1
      · simp at hb
  | [], _ :: _, _, _, _, h, _, _, _, _ => by simp at h
  | _ :: _, [], _, _, _, h, _, _, _, _ => by simp at h

/-- Zeroes, row after row. -/
theorem zeros_flat {z : Value} {n : Nat} (len : Nat) (hl : (cellsL z).length = n) (hn : 0 < n) : ((Array.range (len * n)).map (z.cells[· % z.cells.size]!)).toList = (List.replicate len (cellsL z)).flatten := by
  have hzc : z.cells.toList = cellsL z := cells_toList z
  have hzs : z.cells.size = n := by rw [← hl, ← hzc]; simp
  apply List.ext_getElem?
  intro m
  by_cases hm : m < len * n
  · have hq : m / n < len := (Nat.div_lt_iff_lt_mul hn).2 hm
    have hmod : m % n < (cellsL z).length := by rw [hl]; exact Nat.mod_lt _ hn
    have := flat_get (rows := List.replicate len (cellsL z)) (sz := n) (fun r hr => by rw [(List.mem_replicate.1 hr).2]; exact hl) (i := m / n) (j := m % n) (r := cellsL z) (v := (cellsL z)[m % n]) (by simp [hq]) (List.getElem?_eq_getElem hmod)
    rw [show m / n * n + m % n = m by rw [Nat.mul_comm]; exact Nat.div_add_mod m n] at this
    rw [this]
    have hlt : m % n < z.cells.size := by omega
    simp only [Array.toList_map, Array.toList_range, List.getElem?_map, List.getElem?_range hm, Option.map_some, hzs, Option.some.injEq]
    rw [getElem!_pos z.cells (m % n) hlt]
    simp only [← hzc, Array.getElem_toList]
  · rw [List.getElem?_eq_none (by simp; omega), List.getElem?_eq_none]
    rw [flat_len (sz := n) (fun r hr => by rw [(List.mem_replicate.1 hr).2]; exact hl)]
    simp; omega

theorem buildSlice_sound {φ : Phi} {s s' : St} {t e : TypeId} {z : Value} {n len : Nat} {ps ps' : List (Nat × Value)} {r : Value} (h : Rel φ s w) (ht : P.underlying t = some (.slice e)) (hz : zeroT P e = some z) (hn : sizeT P e = some n)
    (hpz : plainV z = true) (hone : oneCs (cellsL z) = true) (hlen : len * n ≤ 16777216) (hn0 : 0 < n) (hzl : (cellsL z).length = n)
    (hps : ps.length = ps'.length) (hrel : ∀ (k i : Nat) (v : Value), ps[k]? = some (i, v) → ∃ v', ps'[k]? = some (i, v') ∧ VRel φ v v')
    (hb : ((bls n (List.replicate len (cellsL z)) ps).bind fun rows => als s n len rows) = some (r, s')) :
    ∃ φ' r' w', (Instr.buildSlice t len ps'.toArray).run P w = .ok r' w' ∧ VRel φ' r r' ∧ Step φ s w φ' s' w' := by
  cases hbl : bls n (List.replicate len (cellsL z)) ps with
  | none => simp [hbl] at hb
  | some rows =>
    simp only [hbl, Option.bind_some] at hb
    have hrep : ∀ q ∈ List.replicate len (cellsL z), q.length = n ∧ oneCs q = true := fun q hq => by rw [(List.mem_replicate.1 hq).2]; exact ⟨hzl, hone⟩
    have hzf : VsRel φ (List.replicate len (cellsL z)).flatten (List.replicate len (cellsL z)).flatten := by
      generalize len = k
      induction k with
      | zero => exact .nil
      | succ k ih => rw [List.replicate_succ, List.flatten_cons]; exact (VsRel.zero hpz).append ih
    obtain ⟨cs', g1, g2, g3, g4⟩ := bls_sound ps ps' (List.replicate len (cellsL z)) rows _ hps hrel hrep hzf hbl
    obtain ⟨φ', q1, q2⟩ := als_sound e h g3 g2 (by rw [g4]; simp) hb
    refine ⟨φ', _, _, ?_, q1, q2⟩
    have hbig : ¬ (len * n > 2 ^ 24) := by simpa using hlen
    have hcells : (Array.range (len * n)).map ((if len * n = 0 then #[] else z.cells)[· % (if len * n = 0 then #[] else z.cells : Array Value).size]!) = ⟨(List.replicate len (cellsL z)).flatten⟩ := by
      apply Array.ext'
      by_cases h0 : len * n = 0
      · have : len = 0 := by
          rcases Nat.mul_eq_zero.1 h0 with h | h
          · exact h
          · omega
        subst this
        simp
      · simp only [if_neg h0]
        exact zeros_flat len hzl hn0
    by_cases h0 : len * n = 0
    · simp only [if_pos h0] at hcells
      simp only [Instr.buildSlice, Sem.run_bind, run_underlying ht, Result.andThen_ok, run_sizeOf w hn, if_neg hbig, Sem.run_ite, if_pos h0, Sem.run_pure, hcells, g1]
      simp [newRow, g4]
    · simp only [if_neg h0] at hcells
      simp only [Instr.buildSlice, Sem.run_bind, run_underlying ht, Result.andThen_ok, run_sizeOf w hn, if_neg hbig, Sem.run_ite, if_neg h0, Sem.run_pure, run_zeroValue w hz, hcells, g1]
      simp [newRow, g4]

theorem mks_sound {φ : Phi} {s s' : St} {t e : TypeId} {inf : TypeInfo} {z l l' c c' : Value} {n : Nat} {r : Value} (h : Rel φ s w) (ht : P.underlying t = some (.slice e)) (hi : P.info? e = some inf) (hz : inf.zero = some z) (hn : inf.size = n)
    (hpz : plainV z = true) (hone : oneCs (cellsL z) = true) (hn0 : 0 < n) (hzl : (cellsL z).length = n) (hl : VRel φ l l') (hc : VRel φ c c') (hb : mks s n inf.bytes (cellsL z) l c = some (r, s')) :
    ∃ φ' r' w', (Instr.makeSlice t l' c').run P w = .ok r' w' ∧ VRel φ' r r' ∧ Step φ s w φ' s' w' := by
  unfold mks at hb
  split at hb
  · rename_i kl lv kc cv
    cases hl; cases hc
    split at hb
    · rename_i hk
      obtain ⟨k1, k2, k3, k4⟩ := hk
      have hzf : VsRel φ (List.replicate cv.toNat (cellsL z)).flatten (List.replicate cv.toNat (cellsL z)).flatten := by
        generalize cv.toNat = k
        induction k with
        | zero => exact .nil
        | succ k ih => rw [List.replicate_succ, List.flatten_cons]; exact (VsRel.zero hpz).append ih
      obtain ⟨φ', q1, q2⟩ := als_sound e h (fun q hq => by rw [(List.mem_replicate.1 hq).2]; exact ⟨hzl, hone⟩) hzf (by simp; omega) hb
      have hrun := run_make (P := P) w t e inf z ht hi hz kl kc lv cv k1 k2 (by rw [Int.mul_comm]; omega) k4
      have hcells : madeCells z.cells (cv.toNat * inf.size) = ⟨(List.replicate cv.toNat (cellsL z)).flatten⟩ := by
        apply Array.ext'
        rw [hn]
        exact zeros_flat cv.toNat hzl hn0
      rw [hcells] at hrun
      exact ⟨φ', _, _, hrun, by simpa using q1, q2⟩
    · simp at hb
  · simp at hb

/-! ### copy -/

theorem cpy_sound {φ : Phi} {s s' : St} {sz : Nat} {v v' x x' r : Value} {t u ty e : TypeId} (ht : P.underlying t = some (.slice e)) (hn : sizeT P e = some sz)
    (h : Rel φ s w) (hv : VRel φ v v') (hx : VRel φ x x') (ha : cpy s sz v x = some (r, s')) :
    ∃ w', (Builtin.copy_ #[t, u] ty #[v', x']).run P w = .ok r w' ∧ plainV r = true ∧ Step φ s w φ s' w' := by
  unfold cpy at ha
  split at ha
  · rename_i dn xn hd hxn
    cases hrw : rowsOf s sz (min xn dn) x with
    | none => simp [hrw] at ha
    | some news =>
      simp only [hrw, Option.bind_some] at ha
      obtain ⟨r1, r2, xs', r3, r4, r5⟩ := rows_sound P h hx hrw
      have hlen := lenV_rel P hx hxn w
      split at ha
      · rename_i b i len ec
        cases hv with
        | @slice _ _ _ _ c a l hl h1 h2 h3 h4 =>
          simp only [lenV, Option.some.injEq] at hd
          subst hd
          cases hb : s.get b with
          | none => simp [hb] at ha
          | some k =>
            cases k with
            | map es ro => simp [hb] at ha
            | row sz' rows ro =>
              cases ro with
              | true => simp [hb] at ha
              | false =>
                simp only [hb] at ha
                split at ha
                · rename_i hc
                  obtain ⟨rfl, hin⟩ := hc
                  obtain ⟨l2, g2, hB⟩ := h.blk b _ hb
                  rw [hl] at g2
                  simp only [Option.some.injEq] at g2
                  subst g2
                  split at ha
                  · rename_i h0
                    simp only [Option.some.injEq, Prod.mk.injEq] at ha
                    obtain ⟨rfl, rfl⟩ := ha
                    have hxs : xs' = [] := List.length_eq_zero_iff.1 (by rw [r3, h0]; simp)
                    subst hxs
                    have hf := r5 w rfl
                    refine ⟨w, ?_, rfl, Step.refl h⟩
                    rw [h0] at hf
                    have h0' : Nat.min xn len = 0 := h0
                    simp [Builtin.copy_, run_underlying ht, hlen, run_sizeOf w hn, h0', hf, storeCells, goInt]
                  · rename_i h0
                    simp only [Option.some.injEq, Prod.mk.injEq] at ha
                    obtain ⟨rfl, rfl⟩ := ha
                    have hB' := hB
                    obtain ⟨k1, k2, cs, e', fz, hh, k3, k4, k5⟩ := hB'
                    have hfz := k5 rfl
                    subst hfz
                    have hmin : min xn len ≤ len := Nat.min_le_right _ _
                    have haddr := h3 (by omega)
                    subst haddr
                    have hcapsz : (i + min xn len) * sz' ≤ l.cap * sz' := Nat.mul_le_mul_right _ (by omega)
                    have hst := run_storeCells_at P l.blk (l.off + i * l.sz) e' xs' 0 cs w hh (by
                      rw [Nat.add_mul] at hcapsz
                      rw [k1, r3]; omega) (ones_of r2 r4)
                    have hf := r5 w rfl
                    have hst' : (storeCells (⟨l.blk, l.off + i * l.sz, none⟩ : Addr) xs').run P w = .ok () (w.setRow l.blk (cs.toList.take (l.off + i * sz') ++ xs' ++ cs.toList.drop (l.off + i * sz' + xs'.length)).toArray) := by
                      rw [hst, k1]; simp
                    refine ⟨_, ?_, rfl, put_step h hb rfl hl (rows_put (i := i) (n := min xn len) (.refl _) hB hh r2 r1 r4 (by omega) rfl rfl rfl rfl (by simp [r1]; omega) fun m q hq => ?_) (fun c hc => setRow_other w l.blk c _ hc) (by simp) rfl rfl rfl⟩
                    · have hm' : Nat.min xn len = min xn len := rfl
                      simp [Builtin.copy_, run_underlying ht, hlen, run_sizeOf w hn, hm', hf, hst', goInt]
                    · by_cases hm : m < i
                      · right
                        rw [List.append_assoc, List.getElem?_append_left (by simp; omega), List.getElem?_take, if_pos hm] at hq
                        exact ⟨.inl hm, hq⟩
                      · have hlt : (rows.take i).length = i := by simp; omega
                        rw [List.append_assoc, List.getElem?_append_right (by omega), hlt] at hq
                        by_cases hm2 : m < i + min xn len
                        · left
                          rw [List.getElem?_append_left (by omega)] at hq
                          exact ⟨by omega, hm2, hq⟩
                        · right
                          rw [List.getElem?_append_right (by omega), List.getElem?_drop] at hq
                          refine ⟨.inr (by omega), ?_⟩
                          rw [← hq]; congr 1; omega
                · simp at ha
      · cases hv
        simp only [Option.some.injEq, Prod.mk.injEq] at ha
        obtain ⟨rfl, rfl⟩ := ha
        simp only [lenV, Option.some.injEq] at hd
        subst hd
        have hf := r5 w rfl
        have h0' : Nat.min xn 0 = 0 := Nat.min_zero xn
        rw [show min xn 0 = 0 from Nat.min_zero xn] at hf
        refine ⟨w, ?_, rfl, Step.refl h⟩
        simp [Builtin.copy_, run_underlying ht, hlen, run_sizeOf w hn, hf, goInt]
      · simp at ha
  · simp at ha

/-! ### A text of bytes -/

theorem bytesOf_spec : ∀ {rows : List (List Value)} {l : List UInt8}, bytesOf rows = some l → ∃ ns : List Int, rows.flatten = ns.map (Value.int .u8) ∧ l = ns.map (fun n => UInt8.ofNat n.toNat) ∧ ns.length = rows.length
  | [], l, h => by simp only [bytesOf, Option.some.injEq] at h; subst h; exact ⟨[], rfl, rfl, rfl⟩
  | r :: rows, l, h => by
    unfold bytesOf at h
    split at h
    · rename_i heq; simp at heq
    · rename_i n rs heq
      simp only [List.cons.injEq] at heq
      obtain ⟨rfl, rfl⟩ := heq
      cases hb : bytesOf rows with
      | none => simp [hb] at h
      | some l' =>
        simp only [hb, Option.map_some, Option.some.injEq] at h
        subst h
        obtain ⟨ns, h1, h2, h3⟩ := bytesOf_spec hb
        exact ⟨n :: ns, by simp [h1], by simp [h2], by simp [h3]⟩
    · simp at h

theorem b2s_sound {φ : Phi} {s : St} {src dst e : TypeId} {v v' r : Value} (hs : P.underlying src = some (.slice e)) (he : P.underlying e = some (.int .u8)) (hd : P.underlying dst = some .string)
    (h : Rel φ s w) (hv : VRel φ v v') (hx : b2s s v = some r) : plainV r = true ∧ (convert src dst v').run P w = .ok r w := by
  unfold b2s at hx
  cases hn : lenV v with
  | none => simp [hn] at hx
  | some n =>
    simp only [hn, Option.bind_some] at hx
    split at hx
    · rename_i a len ec
      cases hrw : rowsOf s 1 n (.slice a len ec) with
      | none => simp [hrw] at hx
      | some rows =>
        simp only [hrw, Option.bind_some] at hx
        cases hb : bytesOf rows with
        | none => simp [hb] at hx
        | some l =>
          simp only [hb, Option.map_some, Option.some.injEq] at hx
          subst hx
          refine ⟨rfl, ?_⟩
          obtain ⟨r1, r2, xs', r3, r4, r5⟩ := rows_sound P h hv hrw
          obtain ⟨ns, n1, n2, n3⟩ := bytesOf_spec hb
          rw [n1] at r4
          have hpl : ∀ l : List Int, plainVs (l.map (Value.int .u8)) = true := by
            intro l
            induction l with
            | nil => rfl
            | cons x l ih => simp [plainVs, plainV, ih]
          have hxs : xs' = ns.map (Value.int .u8) := r4.plain_eq (hpl ns)
          have hf := r5 w rfl
          simp only [lenV, Option.some.injEq] at hn
          subst hn
          cases hv with
          | snil =>
            have : ns = [] := List.length_eq_zero_iff.1 (by rw [n3, r1])
            subst this
            rw [run_convert_bytes_nil w src e hs he 0 0 dst hd, n2]
            rfl
          | @slice _ _ _ _ c a lc hlc h1 h2 h3 h4 =>
            simp only [Builtin.firstCells, Nat.mul_one] at hf
            rw [hxs] at hf
            rw [run_convert_bytes_string w src dst e _ len c hs he hd, run_bytesToString w a len c ns hf, foldl_push_bytes, n2]
            simp [ByteArray.empty, ByteArray.emptyWithCapacity]
            rfl
    · simp at hx

end

end Go.Sim
