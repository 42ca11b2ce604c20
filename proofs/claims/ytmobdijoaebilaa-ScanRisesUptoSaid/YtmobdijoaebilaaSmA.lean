/-
  The arguments of a law, where what is read is small: each slice of them is no longer than a bound.
-/
import Derived.Test.YtmobdijoaebilaaSimZ
set_option linter.unusedSimpArgs false
set_option linter.unusedVariables false
namespace Go.Sim
open Go.RowKit (Below)
open Go.ChangeShapes Go.WideShapes Go.RowKit

/-- The bound. -/
def smallM : Nat := 1048576
/-- What abstract cells of a type look like. -/
def TyM (P : Program) (s : St) : Nat → TypeId → List Value → Prop
  | 0, _, _ => False
  | d + 1, t, cs => match P.underlying t with
    | some .bool => ∃ b, cs = [.bool b]
    | some (.int k) => ∃ n, cs = [.int k n] ∧ (Lit.int k n).wf = true
    | some .string => ∃ x : ByteArray, cs = [.string x] ∧ x.size ≤ smallM
    | some (.slice e) => cs = [.slice none 0 0] ∨ ∃ b len cap rows, cs = [.slice (some ⟨b, 0, some 0⟩) len (2 * cap)] ∧ len ≤ cap ∧ cap ≤ smallM ∧ s.get b = some (.row (P.cellsOf e) rows true) ∧ rows.length = cap ∧ ∀ r ∈ rows, TyM P s d e r
    | some (.struct fs) => TyFs P (TyM P s d) fs.toList cs
    | some (.array n e) => TyN (P.cellsOf e) (TyM P s d e) n cs
    | _ => False

theorem TyM.ext {P : Program} {s s' : St} (h : Ext s s') : ∀ {d : Nat} {t : TypeId} {cs : List Value}, TyM P s d t cs → TyM P s' d t cs
  | 0, _, _, e => e.elim
  | d + 1, t, cs, e => by
    unfold TyM at *
    split at e
    · exact e
    · exact e
    · exact e
    · rcases e with e | ⟨b, len, cap, rows, h1, h2, h3, h4, h5, h6⟩
      · exact .inl e
      · exact .inr ⟨b, len, cap, rows, h1, h2, h3, h _ _ h4, h5, fun r hr => TyM.ext h (h6 r hr)⟩
    · exact TyFs.mono (fun _ _ => TyM.ext h) e
    · exact TyN.mono (fun _ => TyM.ext h) e
    · exact e.elim

/-- What is counted of what is read. -/
structure IsBulk {H : Type} (B : DataW H → Nat) : Prop where
  sl : ∀ es rs : List (DataW H), es.length + rs.length ≤ B (.slice es rs) ∧ ∀ x, x ∈ es ∨ x ∈ rs → B x ≤ B (.slice es rs)
  ag : ∀ (ps : List (DataW H)) x, x ∈ ps → B x ≤ B (.agg ps)
  str : ∀ x : ByteArray, x.size ≤ B (.lit (.string x.data.toList))

section
variable {P : Program} {w : World} {H : Type} {enc : TypeId × Value → H} {held : Bool}
theorem gotM_fields {B : DataW H → Nat} {d : Nat} {full : List Value}
    (IH : ∀ {t : TypeId} {cs : List Value} {m : Nat} {y : DataW H × List MemPlace} {φ : Phi} {s : St}, tyOk P d t = true → DataW.trod enc P w 0 (fun _ => true) held m t cs = some y → B y.1 ≤ smallM → HB w cs → Rel φ s w → AllRo s → Got P w φ s (fun s' abs => TyM P s' d t abs) cs) :
    ∀ (fs : List Field) (o : Nat) {φ : Phi} {s : St}, fieldsOk P (tyOk P d) fs o full.length = true → (∀ f ∈ fs, ∃ m y, DataW.trod enc P w 0 (fun _ => true) held m f.type ((full.drop f.offset).take (P.cellsOf f.type)) = some y ∧ B y.1 ≤ smallM) → HB w full → Rel φ s w → AllRo s →
      Got P w φ s (fun s' abs => TyFs P (TyM P s' d) fs abs) (full.drop o)
  | [], o, φ, s, hf, _, _, hr, ha => by
    simp only [fieldsOk, beq_iff_eq] at hf
    have : full.drop o = [] := by rw [hf]; simp
    rw [this]
    exact ⟨φ, s, [], hr, ha, .refl _, .refl s, .nil, rfl, rfl⟩
  | f :: r, o, φ, s, hf, ht, hb, hr, ha => by
    simp only [fieldsOk, Bool.and_eq_true, beq_iff_eq] at hf
    obtain ⟨⟨rfl, h2⟩, h3⟩ := hf
    obtain ⟨m, y, hy, hBy⟩ := ht f (by simp)
    have hlen : ((full.drop f.offset).take (P.cellsOf f.type)).length = P.cellsOf f.type := by
      have := fieldsOk_le h3
      simp; omega
    have e : full.drop f.offset = (full.drop f.offset).take (P.cellsOf f.type) ++ full.drop (f.offset + P.cellsOf f.type) := by
      rw [← List.drop_drop, List.take_append_drop]
    rw [e]
    refine Got.append (IH h2 hy hBy (fun a len cap hm => hb a len cap (List.mem_of_mem_drop (List.mem_of_mem_take hm))) hr ha) (fun φ' s' hr' ha' => gotM_fields IH r _ h3 (fun g hg => ht g (by simp [hg])) hb hr' ha')
      (fun s' s'' abs he h => TyM.ext he h) fun s' a b hl h4 h5 => ?_
    rw [hlen] at hl
    refine ⟨?_, ?_⟩
    · rw [← hl, List.take_left']
      · exact h4
      · rfl
    · rw [← hl, List.drop_left']
      · exact h5
      · rfl

theorem gotM_elems {B : DataW H → Nat} {d n : Nat} {e : TypeId} {full : List Value}
    (IH : ∀ {t : TypeId} {cs : List Value} {m : Nat} {y : DataW H × List MemPlace} {φ : Phi} {s : St}, tyOk P d t = true → DataW.trod enc P w 0 (fun _ => true) held m t cs = some y → B y.1 ≤ smallM → HB w cs → Rel φ s w → AllRo s → Got P w φ s (fun s' abs => TyM P s' d t abs) cs)
    (he : tyOk P d e = true) (hl : full.length = n * P.cellsOf e) (hb : HB w full) (ht : ∀ i, i < n → ∃ m y, DataW.trod enc P w 0 (fun _ => true) held m e ((full.drop (i * P.cellsOf e)).take (P.cellsOf e)) = some y ∧ B y.1 ≤ smallM) :
    ∀ (k i : Nat) {φ : Phi} {s : St}, i + k = n → Rel φ s w → AllRo s → Got P w φ s (fun s' abs => TyN (P.cellsOf e) (TyM P s' d e) k abs) (full.drop (i * P.cellsOf e))
  | 0, i, φ, s, hi, hr, ha => by
    have : full.drop (i * P.cellsOf e) = [] := by
      apply List.drop_eq_nil_of_le
      rw [hl, ← hi]; simp
    rw [this]
    exact ⟨φ, s, [], hr, ha, .refl _, .refl s, .nil, rfl, rfl⟩
  | k + 1, i, φ, s, hi, hr, ha => by
    obtain ⟨m, y, hy, hBy⟩ := ht i (by omega)
    have hlen : ((full.drop (i * P.cellsOf e)).take (P.cellsOf e)).length = P.cellsOf e := by
      have : (i + 1) * P.cellsOf e ≤ n * P.cellsOf e := Nat.mul_le_mul_right _ (by omega)
      rw [Nat.succ_mul] at this
      simp; omega
    have e2 : full.drop (i * P.cellsOf e) = (full.drop (i * P.cellsOf e)).take (P.cellsOf e) ++ full.drop ((i + 1) * P.cellsOf e) := by
      rw [Nat.succ_mul, ← List.drop_drop, List.take_append_drop]
    rw [e2]
    refine Got.append (IH he hy hBy (fun a len cap hm => hb a len cap (List.mem_of_mem_drop (List.mem_of_mem_take hm))) hr ha) (fun φ' s' hr' ha' => gotM_elems IH he hl hb ht k (i + 1) (by omega) hr' ha')
      (fun s' s'' abs he h => TyM.ext he h) fun s' a b hl2 h4 h5 => ?_
    rw [hlen] at hl2
    refine ⟨?_, ?_⟩
    · rw [List.take_left' hl2]
      exact h4
    · rw [List.drop_left' hl2]
      exact h5

theorem gotM_rows {B : DataW H → Nat} {d : Nat} {e : TypeId} {a : Addr}
    (IH : ∀ {t : TypeId} {cs : List Value} {m : Nat} {y : DataW H × List MemPlace} {φ : Phi} {s : St}, tyOk P d t = true → DataW.trod enc P w 0 (fun _ => true) held m t cs = some y → B y.1 ≤ smallM → HB w cs → Rel φ s w → AllRo s → Got P w φ s (fun s' abs => TyM P s' d t abs) cs)
    (he : tyOk P d e = true) (h0 : 0 < P.cellsOf e) : ∀ (n : Nat) {φ : Phi} {s : St}, (∀ i, i < n → ∃ m y, (w.cells? 0 (a.add (i * P.cellsOf e)) (P.cellsOf e)).bind (DataW.trod enc P w 0 (fun _ => true) held m e) = some y ∧ B y.1 ≤ smallM) → Rel φ s w → AllRo s →
      ∃ (φ' : Phi) (s' : St) (rows : List (List Value)), Rel φ' s' w ∧ AllRo s' ∧ φ.le φ' ∧ Ext s s' ∧ rows.length = n ∧ ∀ (i : Nat) r, rows[i]? = some r → r.length = P.cellsOf e ∧ oneCs r = true ∧ TyM P s' d e r ∧ ∀ (j : Nat) v, r[j]? = some v → ∃ u, w.cell? ((a.add (i * P.cellsOf e)).add j) = some u ∧ VRel φ' v u
  | 0, φ, s, _, hr, ha => ⟨φ, s, [], hr, ha, .refl _, .refl s, rfl, fun i r h => by simp at h⟩
  | n + 1, φ, s, ht, hr, ha => by
    obtain ⟨φ1, s1, rows, r1, r2, r3, r4, r5, r6⟩ := gotM_rows IH he h0 n (fun i hi => ht i (by omega)) hr ha
    obtain ⟨m, y, hy, hBy⟩ := ht n (by omega)
    rw [Option.bind_eq_some_iff] at hy
    obtain ⟨cs, hcs, hy⟩ := hy
    obtain ⟨_, hl, hc⟩ := World.cells?_some hcs
    have hB : HasB w := by
      have := hc 0 h0
      have hx : ∃ v, cs[0]? = some v := ⟨cs[0]'(by omega), List.getElem?_eq_getElem (by omega)⟩
      obtain ⟨v, hv⟩ := hx
      rw [hv] at this
      exact hasB_of_cell this
    obtain ⟨φ2, s2, abs, q1, q2, q3, q4, q5, q6, q7⟩ := IH he hy hBy (fun _ _ _ _ => hB) r1 r2
    refine ⟨φ2, s2, rows ++ [abs], q1, q2, r3.trans q3, r4.trans q4, by simp [r5], fun i r hi => ?_⟩
    rw [List.getElem?_append] at hi
    split at hi
    · obtain ⟨f1, f2, f3, f4⟩ := r6 i r hi
      refine ⟨f1, f2, TyM.ext q4 f3, fun j v hv => ?_⟩
      obtain ⟨u, g1, g2⟩ := f4 j v hv
      exact ⟨u, g1, g2.mono q3⟩
    · rename_i hge
      have hin : i = n := by
        have := (List.getElem?_eq_some_iff.1 hi).1
        simp at this
        omega
      subst hin
      rw [r5] at hi
      simp at hi
      subst hi
      refine ⟨by rw [q5.length, hl], q6, q7, fun j v hv => ?_⟩
      obtain ⟨u, g1, g2⟩ := q5.get hv
      have hj : j < P.cellsOf e := by
        have := (List.getElem?_eq_some_iff.1 g1).1
        omega
      exact ⟨u, by rw [hc j hj]; exact g1, g2⟩

theorem args_absM {B : DataW H → Nat} (hB : IsBulk B) : ∀ (d : Nat) {t : TypeId} {cs : List Value} {m : Nat} {y : DataW H × List MemPlace} {φ : Phi} {s : St}, tyOk P d t = true → DataW.trod enc P w 0 (fun _ => true) held m t cs = some y → B y.1 ≤ smallM → HB w cs → Rel φ s w → AllRo s →
    Got P w φ s (fun s' abs => TyM P s' d t abs) cs
  | 0, t, cs, m, y, φ, s, h, _, _, _, _, _ => by simp [tyOk] at h
  | d + 1, t, cs, m, y, φ, s, h, ht, hk, hb, hr, ha => by
    have one : ∀ {v : Value}, plainV v = true → oneC v = true → TyM P s (d + 1) t [v] → Got P w φ s (fun s' abs => TyM P s' (d + 1) t abs) [v] := fun h1 h2 h3 =>
      ⟨φ, s, _, hr, ha, .refl _, .refl s, .cons (VRel.of_plain φ h1) .nil, by simp [oneCs, h2], h3⟩
    unfold tyOk at h
    split at h
    · rename_i hu
      obtain ⟨b, rfl, _⟩ := DataW.trod_bool hu ht
      exact one rfl rfl (by simp [TyM, hu])
    · rename_i k hu
      obtain ⟨n, rfl, _, hw⟩ := DataW.trod_int hu ht
      exact one rfl rfl (by simp [TyM, hu, hw])
    · rename_i hu
      obtain ⟨x, rfl, rfl, hw⟩ := DataW.trod_string hu ht
      have hw := Nat.le_trans (hB.str x) hk
      exact one rfl rfl (by simp [TyM, hu, hw])
    · rename_i e hu
      simp only [Bool.and_eq_true, decide_eq_true_eq] at h
      obtain ⟨h0, he⟩ := h
      rcases DataW.trod_slice hu ht with ⟨rfl, _⟩ | ⟨a, len, cap, elems, rest, n, _, rfl, hx, _, hlc, _, hel, hels, hsp, _⟩
      · exact one rfl rfl (by simp [TyM, hu])
      · obtain ⟨hrl, hre⟩ := hsp rfl
        subst hx
        have hmax : cap ≤ smallM := by
          have := (hB.sl (elems.map (·.1)) (rest.map (·.1))).1
          simp only [List.length_map] at this
          have hk : B (.slice (elems.map (·.1)) (rest.map (·.1))) ≤ smallM := hk
          omega
        have hin : ∀ z, z ∈ elems ∨ z ∈ rest → B z.1 ≤ smallM := fun z hz => by
          refine Nat.le_trans ((hB.sl (elems.map (·.1)) (rest.map (·.1))).2 z.1 ?_) hk
          rcases hz with hz | hz
          · exact .inl (List.mem_map.2 ⟨z, hz, rfl⟩)
          · exact .inr (List.mem_map.2 ⟨z, hz, rfl⟩)
        have hall : ∀ i, i < cap → ∃ m y, (w.cells? 0 (a.add (i * P.cellsOf e)) (P.cellsOf e)).bind (DataW.trod enc P w 0 (fun _ => true) held m e) = some y ∧ B y.1 ≤ smallM := by
          intro i hi
          by_cases hil : i < len
          · exact ⟨n, elems[i]'(by omega), by rw [hels i hil]; exact List.getElem?_eq_getElem (by omega), hin _ (.inl (List.getElem_mem _))⟩
          · refine ⟨n, rest[i - len]'(by omega), ?_, hin _ (.inr (List.getElem_mem _))⟩
            have := hre (i - len) (by omega)
            rw [show len + (i - len) = i by omega] at this
            rw [this]
            exact List.getElem?_eq_getElem (by omega)
        obtain ⟨φ1, s1, rows, r1, r2, r3, r4, r5, r6⟩ := gotM_rows (fun h1 h2 h3 h4 h5 h6 => args_absM hB d h1 h2 h3 h4 h5 h6) he h0 cap hall hr ha
        obtain ⟨b, cs0, e0, fz0, hB⟩ := hb a len cap (by simp)
        have key : ∃ l : Loc, BRel φ1 l (.row (P.cellsOf e) rows true) w ∧ l.cap = cap ∧ l.sz = P.cellsOf e ∧ (cap ≠ 0 → a = ⟨l.blk, l.off, none⟩) := by
          by_cases hc0 : cap = 0
          · subst hc0
            have : rows = [] := List.length_eq_zero_iff.1 r5
            subst this
            exact ⟨⟨b, 0, P.cellsOf e, 0⟩, ⟨rfl, by simp, cs0, e0, fz0, hB, by simp, fun i r hi => by simp at hi, fun hx => by cases hx⟩, rfl, rfl, fun h => absurd rfl h⟩
          · have cell : ∀ i j, i < cap → j < P.cellsOf e → ∃ r v u, rows[i]? = some r ∧ r[j]? = some v ∧ w.cell? ((a.add (i * P.cellsOf e)).add j) = some u := by
              intro i j hi hj
              have hr1 : rows[i]? = some (rows[i]'(by omega)) := List.getElem?_eq_getElem (by omega)
              obtain ⟨g1, _, _, g4⟩ := r6 i _ hr1
              have hv : (rows[i]'(by omega))[j]? = some ((rows[i]'(by omega))[j]'(by omega)) := List.getElem?_eq_getElem (by omega)
              obtain ⟨u, g5, _⟩ := g4 j _ hv
              exact ⟨_, _, u, hr1, hv, g5⟩
            obtain ⟨blk, off, spot⟩ := a
            obtain ⟨_, _, u0, _, _, hu0⟩ := cell 0 0 (by omega) h0
            have hspot : spot = none := by
              unfold World.cell? at hu0
              simp only [Addr.add, Nat.zero_mul, if_true] at hu0
              cases spot with
              | none => rfl
              | some q => split at hu0 <;> simp at hu0
            subst hspot
            have hblk : ∃ cs e fz, w.heap[blk]? = some (Obj.cells cs e fz) := by
              unfold World.cell? at hu0
              simp only [Addr.add, Nat.zero_mul, if_true] at hu0
              split at hu0
              · rename_i c x fz hh; exact ⟨_, _, _, hh⟩
              · simp at hu0
            obtain ⟨cs1, e1, fz1, hh⟩ := hblk
            have hadd : ∀ i j, w.cell? (((⟨blk, off, none⟩ : Addr).add (i * P.cellsOf e)).add j) = cs1[off + i * P.cellsOf e + j]? := fun i j => by
              rw [Addr.add_mid, Addr.add_mid, cell_at hh]
            refine ⟨⟨blk, off, P.cellsOf e, cap⟩, ⟨rfl, by rw [r5]; exact Nat.le_refl _, cs1, e1, fz1, hh, ?_, fun i r hi => ?_, fun hx => by cases hx⟩, rfl, rfl, fun _ => rfl⟩
            · obtain ⟨_, _, u, _, _, hu2⟩ := cell (cap - 1) (P.cellsOf e - 1) (by omega) (by omega)
              rw [hadd] at hu2
              have hlt := (Array.getElem?_eq_some_iff.1 hu2).1
              have : cap * P.cellsOf e = (cap - 1) * P.cellsOf e + P.cellsOf e := by
                rw [← Nat.succ_mul]; congr 1; omega
              show off + cap * P.cellsOf e ≤ cs1.size
              omega
            · obtain ⟨g1, g2, _, g4⟩ := r6 i r hi
              refine ⟨g1, g2, fun j v hv => ?_⟩
              obtain ⟨u, g5, g6⟩ := g4 j v hv
              rw [hadd] at g5
              exact ⟨u, g5, g6⟩
        obtain ⟨l, hBR, hcap, hsz, haddr⟩ := key
        obtain ⟨q1, q2, q3, q4⟩ := rel_ro r1 r2 hBR
        refine ⟨_, _, [.slice (some ⟨s1.n, 0, some 0⟩) len (2 * cap)], q1, q2, r3.trans q3, r4.trans q4, .cons (.slice (l := l) (Phi.add_self _ _ _) hlc (by omega) (fun hc => by rw [haddr hc]; simp) (.inr rfl)) .nil, rfl, ?_⟩
        simp only [TyM, hu]
        exact .inr ⟨s1.n, len, cap, rows, rfl, hlc, hmax, by rw [St.get_new, if_pos rfl], r5, fun r hm => by
          obtain ⟨i, hi⟩ := List.getElem?_of_mem hm
          exact TyM.ext q4 (r6 i r hi).2.2.1⟩
    · rename_i fs hu
      obtain ⟨xs, n, _, hy, hlen, hxl, hx⟩ := DataW.trod_struct hu ht
      subst hy
      have hin : ∀ z, z ∈ xs → B z.1 ≤ smallM := fun z hz => Nat.le_trans (hB.ag (xs.map (·.1)) z.1 (List.mem_map.2 ⟨z, hz, rfl⟩)) hk
      have := gotM_fields (fun h1 h2 h3 h4 h5 h6 => args_absM hB d h1 h2 h3 h4 h5 h6) fs.toList 0 (full := cs) (by rw [hlen]; exact h) (fun f hf => by
        obtain ⟨i, hi⟩ := List.getElem?_of_mem hf
        have hi' : fs[i]? = some f := by simpa using hi
        have hlt : i < fs.size := (Array.getElem?_eq_some_iff.1 hi').1
        exact ⟨n, xs[i]'(by omega), by rw [hx i f hi']; exact List.getElem?_eq_getElem (by omega), hin _ (List.getElem_mem _)⟩) hb hr ha
      simpa [TyM, hu] using this
    · rename_i n e hu
      simp only [Bool.and_eq_true, decide_eq_true_eq] at h
      obtain ⟨xs, q, _, hy, hlen, hxl, hx⟩ := DataW.trod_array hu ht
      subst hy
      have hin : ∀ z, z ∈ xs → B z.1 ≤ smallM := fun z hz => Nat.le_trans (hB.ag (xs.map (·.1)) z.1 (List.mem_map.2 ⟨z, hz, rfl⟩)) hk
      have := gotM_elems (fun h1 h2 h3 h4 h5 h6 => args_absM hB d h1 h2 h3 h4 h5 h6) h.2 (n := n) (full := cs) (by rw [hlen]; exact h.1) hb (fun i hi => ⟨q, xs[i]'(by omega), by rw [hx i hi]; exact List.getElem?_eq_getElem (by omega), hin _ (List.getElem_mem _)⟩) n 0 (by omega) hr ha
      simpa [TyM, hu] using this
    · simp at h

end
/-- What an abstract argument of a type looks like. -/
def TyMV (P : Program) (s : St) (d : Nat) (t : TypeId) (v : Value) : Prop :=
  match P.underlying t with
  | some (.struct _) | some (.array _ _) => ∃ cs, v = .agg ⟨cs⟩ ∧ TyM P s d t cs
  | _ => TyM P s d t [v]

def TyMVs (P : Program) (s : St) (d : Nat) : List TypeId → List Value → Prop
  | [], [] => True
  | t :: ts, v :: vs => TyMV P s d t v ∧ TyMVs P s d ts vs
  | _, _ => False

theorem TyMV.ext {P : Program} {s s' : St} (h : Ext s s') {d : Nat} {t : TypeId} {v : Value} (e : TyMV P s d t v) : TyMV P s' d t v := by
  unfold TyMV at *
  split at e
  · obtain ⟨cs, h1, h2⟩ := e; exact ⟨cs, h1, TyM.ext h h2⟩
  · obtain ⟨cs, h1, h2⟩ := e; exact ⟨cs, h1, TyM.ext h h2⟩
  · exact TyM.ext h e

section
variable {P : Program} {w : World} {H : Type} {enc : TypeId × Value → H} {held : Bool}
theorem arg_absM {B : DataW H → Nat} (hB : IsBulk B) {d base : Nat} {t : TypeId} {v : Value} {y : DataW H} {ps : List MemPlace} {φ : Phi} {s : St} (ht : tyOk P d t = true) (h : DataW.Trod enc P w 0 (fun _ => true) held t v y ps) (hk : B y ≤ smallM) (hok : Value.okWide P w .any base t v)
    (hr : Rel φ s w) (ha : AllRo s) : ∃ φ' s' u, Rel φ' s' w ∧ AllRo s' ∧ φ.le φ' ∧ Ext s s' ∧ VRel φ' u v ∧ TyMV P s' d t u := by
  obtain ⟨m, hm⟩ := h
  obtain ⟨φ', s', abs, h1, h2, h3, h4, h5, h6, h7⟩ := args_absM hB d ht hm hk (hb_of_ok hok) hr ha
  unfold Value.okWide at hok
  unfold TyMV
  split at hok
  · rename_i hu
    obtain ⟨cs, rfl, _, _⟩ := hok
    exact ⟨φ', s', .agg ⟨abs⟩, h1, h2, h3, h4, .agg h5 h6, by rw [hu]; exact ⟨abs, rfl, h7⟩⟩
  · rename_i hu
    obtain ⟨cs, rfl, _, _⟩ := hok
    exact ⟨φ', s', .agg ⟨abs⟩, h1, h2, h3, h4, .agg h5 h6, by rw [hu]; exact ⟨abs, rfl, h7⟩⟩
  · rename_i n1 n2
    have key : ∃ a, abs = [a] := by
      cases d with
      | zero => exact h7.elim
      | succ d =>
        unfold TyM at h7
        split at h7
        · obtain ⟨b, rfl⟩ := h7; exact ⟨_, rfl⟩
        · obtain ⟨b, rfl, _⟩ := h7; exact ⟨_, rfl⟩
        · obtain ⟨b, rfl, _⟩ := h7; exact ⟨_, rfl⟩
        · rcases h7 with rfl | ⟨_, _, _, _, rfl, _⟩ <;> exact ⟨_, rfl⟩
        · rename_i fs hu; exact absurd hu (n1 _)
        · rename_i n e hu; exact absurd hu (n2 _ _)
        · exact h7.elim
    obtain ⟨a, rfl⟩ := key
    have hv : v.cells.toList = [v] := by
      have hl := h5.length
      cases v with
      | agg cs =>
        exfalso
        unfold Cell.okWide at hok
        split at hok <;> first | exact hok | (simp at *; done) | skip
        all_goals first | (rename_i hv; simp at hv; done) | skip
        unfold Cell.ok at hok
        split at hok <;> first | exact hok | (simp at *; done) | (rename_i hv; simp at hv; done)
      | _ => simp [Value.cells]
    rw [hv] at h5
    cases h5 with
    | cons h5 _ => exact ⟨φ', s', a, h1, h2, h3, h4, h5, by split <;> first | exact h7 | exact absurd ‹_› (n1 _) | exact absurd ‹_› (n2 _ _)⟩

theorem row_argsM {B : DataW H → Nat} (hB : IsBulk B) {d base : Nat} : ∀ {ts : List TypeId} {vs : List Value} {ds : List (DataW H)} {ps : List MemPlace} {φ : Phi} {s : St}, ts.all (tyOk P d) = true → DataW.TrodAll enc P w 0 (fun _ => true) held ts vs ds ps → (∀ y ∈ ds, B y ≤ smallM) →
    (∀ (j : Nat) t v, ts[j]? = some t → vs[j]? = some v → Value.okWide P w .any base t v) → Rel φ s w → AllRo s → ∃ φ' s' us, Rel φ' s' w ∧ AllRo s' ∧ φ.le φ' ∧ Ext s s' ∧ VsRel φ' us vs ∧ TyMVs P s' d ts us
  | [], vs, ds, ps, φ, s, _, h, _, _, hr, ha => by
    obtain ⟨rfl, rfl, rfl⟩ := trodAll_nil h
    exact ⟨φ, s, [], hr, ha, .refl _, .refl s, .nil, trivial⟩
  | t :: ts, vs, ds, ps, φ, s, ht, h, hk, hok, hr, ha => by
    obtain ⟨v, vs', y, ds', p, q, rfl, rfl, rfl, h1, h2⟩ := trodAll_cons h
    simp only [List.all_cons, Bool.and_eq_true] at ht
    obtain ⟨φ1, s1, u, a1, a2, a3, a4, a5, a6⟩ := arg_absM hB ht.1 h1 (hk y (by simp)) (hok 0 t v rfl rfl) hr ha
    obtain ⟨φ2, s2, us, b1, b2, b3, b4, b5, b6⟩ := row_argsM hB ht.2 h2 (fun z hz => hk z (by simp [hz])) (fun j t v e1 e2 => hok (j + 1) t v e1 e2) a1 a2
    exact ⟨φ2, s2, u :: us, b1, b2, a3.trans b3, a4.trans b4, .cons (a5.mono b3) b5, TyMV.ext b4 a6, b6⟩


end
/-- THE ROW: a law without variables that answers `true` and leaves its arguments alone. -/
theorem contractM {B : (H : Type) → DataW H → Nat} (hB : ∀ H, IsBulk (B H)) {P : Program} {fid : FuncId} {fn : Func} {d : Nat} {tb : TypeId} {F : List Value → St → Option (Value × St)} {spec : ChangeSpec} {H : Type} {enc : TypeId × Value → H} {apart fresh handsOn again : Bool}
    (hl : laidOutB P = true) (hts : fn.params.toList.all (fun t => tyOk P d t && P.readableRec t && decide (t < P.types.size)) = true)
    (hres : fn.resultTypes = #[tb]) (htb : P.underlying tb = some .bool) (hv : spec.vars = [])
    (hfn : ∀ ds : List (DataW H), ds.length = fn.params.size → (spec.fn H ds).results = [.lit (.bool true)] ∧ (spec.fn H ds).args = ds ∧ (spec.fn H ds).vars = [])
    (sound : FnOk P fid (.st F))
    (law : ∀ (φ : Phi) (s : St) (us vs : List Value) (W : World), Rel φ s W → AllRo s → TyMVs P s d fn.params.toList us → VsRel φ us vs → ∃ φ1 s1 us1, Rel φ1 s1 W ∧ AllRo s1 ∧ VsRel φ1 us1 vs ∧ ∃ s', F us1 s1 = some (.bool true, s'))
    (W : World) (base : Nat) (args : Array Value) (ds gs : List (DataW H)) (before : List MemPlace)
    (hval : ∀ (j : Nat) t v, fn.params[j]? = some t → args[j]? = some v → Value.okWide P W .any base t v)
    (hk : ∀ y ∈ ds, B H y ≤ smallM) (hW : DataW.Whole enc P fn.params.toList spec.vars apart W args.toList ds gs before) :
    Calls P fid args W fun e W' => ∃ v, e = .returned v ∧ spec.post enc P fn apart fresh handsOn again W args v W' := by
  have hW' := hW
  obtain ⟨p, q, hA, hV, rfl, hfz, hnd⟩ := hW
  rw [hv] at hV
  obtain ⟨rfl, rfl⟩ := trodVars_none hV
  have hts' : fn.params.toList.all (tyOk P d) = true := by
    rw [List.all_eq_true] at hts ⊢
    intro t ht
    have := hts t ht
    simp only [Bool.and_eq_true] at this
    exact this.1.1
  obtain ⟨φ, s, us, h1, h2, _, _, h5, h6⟩ := row_argsM (hB H) (φ := fun _ => none) (s := ⟨[], 0⟩) hts' hA hk (fun j t v e1 e2 => hval j t v (by simpa using e1) (by simpa using e2)) (rel_nil W) (AllRo.nil 0)
  obtain ⟨φ, s, us, h1, h2, h5, s', hF⟩ := law φ s us _ W h1 h2 h6 h5
  have hlen : ∀ {ts : List TypeId} {vs : List Value} {es : List (DataW H)} {ps : List MemPlace}, DataW.TrodAll enc P W 0 (fun _ => true) true ts vs es ps → es.length = ts.length := by
    intro ts
    induction ts with
    | nil => intro vs es ps h; obtain ⟨rfl, rfl, rfl⟩ := trodAll_nil h; rfl
    | cons t ts ih => intro vs es ps h; obtain ⟨v, vs', y, ds', p, q, rfl, rfl, rfl, _, h2⟩ := trodAll_cons h; simp [ih h2]
  obtain ⟨f1, f2, f3⟩ := hfn ds (by rw [hlen hA]; simp)
  have hc := sound φ s W us args.toList _ s' h1 h5 hF
  simp only [Array.toArray_toList] at hc
  have ea : (⟨args.toList⟩ : Array Value) = args := by cases args; rfl
  try rw [ea] at hc
  refine hc.mono fun e W' he => ?_
  cases e with
  | returned u =>
    obtain ⟨φ', hst, hvr⟩ := he
    cases hvr with
    | bool =>
    have hb : Below W.heap.size W W' := ⟨hst.frm.os, hst.frm.tape, hst.frm.output, hst.frm.size, fun c hc => hst.frm.old c hc fun b k l g1 g2 _ => by rw [h2 b k g1] at g2; cases g2⟩
    have hlt : ∀ x ∈ p, x.block < W.heap.size := fun x hx => hW'.lt x (by simp [hx])
    have e0 : ds ++ ([] : List (DataW H)) = ds := by simp
    refine ⟨_, rfl, post_here (pa := p) (pv := []) hW' (fun b sp hd => ?_) (fun sp hsp => ?_) (fun _ _ => ?_) rfl (hb.frame _) (Froz.of_below hb) (ok_one hres rfl (okWide_bool_mk htb _))⟩
    · rw [e0, f1, hres]
      exact trodAll_cons_mk (shut_bool htb _) trodAll_mk0
    · rw [e0, f2]
      refine below_trodAll hl hb (fun t ht => ?_) hA hlt (fun x hx => hsp x (by simp [hx]))
      rw [List.all_eq_true] at hts
      have := hts t ht
      simp only [Bool.and_eq_true, decide_eq_true_eq] at this
      exact ⟨this.1.2, this.2⟩
    · rw [e0, f3, hv]
      rfl
  | _ => exact he.elim
mutual
/-- What a cell looks like. -/
def Leaf.Sm (s : St) : Leaf → Value → Prop
  | .b, v => ∃ x, v = .bool x
  | .i k, v => ∃ n, v = .int k n ∧ (Lit.int k n).wf = true
  | .str, v => ∃ x : ByteArray, v = .string x ∧ x.size ≤ smallM
  | .sl row, v => v = .slice none 0 0 ∨ ∃ b len cap rows, v = .slice (some ⟨b, 0, some 0⟩) len (2 * cap) ∧ len ≤ cap ∧ cap ≤ smallM ∧ s.get b = some (.row row.length rows true) ∧ rows.length = cap ∧ ∀ r ∈ rows, Leaf.Sms s row r
def Leaf.Sms (s : St) : List Leaf → List Value → Prop
  | [], cs => cs = []
  | x :: l, cs => ∃ v r, cs = v :: r ∧ Leaf.Sm s x v ∧ Leaf.Sms s l r
end

theorem Leaf.Sms.length {s : St} : ∀ {l : List Leaf} {cs : List Value}, Leaf.Sms s l cs → cs.length = l.length
  | [], cs, h => by unfold Leaf.Sms at h; simp [h]
  | x :: l, cs, h => by
    unfold Leaf.Sms at h
    obtain ⟨v, r, rfl, _, h⟩ := h
    simp [Leaf.Sms.length h]

theorem Leaf.Sms.append {s : St} : ∀ {l m : List Leaf} {cs ds : List Value}, Leaf.Sms s l cs → Leaf.Sms s m ds → Leaf.Sms s (l ++ m) (cs ++ ds)
  | [], m, cs, ds, h, k => by unfold Leaf.Sms at h; subst h; exact k
  | x :: l, m, cs, ds, h, k => by
    unfold Leaf.Sms at h
    obtain ⟨v, r, rfl, h1, h⟩ := h
    simp only [List.cons_append]
    unfold Leaf.Sms
    exact ⟨v, r ++ ds, rfl, h1, Leaf.Sms.append h k⟩

theorem are_oneM {s : St} {x : Leaf} {v : Value} (h : Leaf.Sm s x v) : Leaf.Sms s [x] [v] := by
  unfold Leaf.Sms
  exact ⟨v, [], rfl, h, by unfold Leaf.Sms; rfl⟩

theorem are_fieldsM {P : Program} {s : St} {d : Nat} (IH : ∀ {t : TypeId} {cs : List Value} {l : List Leaf}, flat P d t = some l → TyM P s d t cs → Leaf.Sms s l cs) :
    ∀ {fs : List Field} {cs : List Value} {l : List Leaf}, flatFs P (flat P d) fs = some l → TyFs P (TyM P s d) fs cs → Leaf.Sms s l cs
  | [], cs, l, h, k => by
    simp only [flatFs, Option.some.injEq] at h
    subst h
    unfold Leaf.Sms
    exact k
  | f :: r, cs, l, h, k => by
    unfold flatFs at h
    split at h
    · rename_i a b ha hb
      split at h
      · simp only [Option.some.injEq] at h
        subst h
        have := Leaf.Sms.append (IH ha k.1) (are_fieldsM IH hb k.2)
        rwa [List.take_append_drop] at this
      · simp at h
    · simp at h

theorem are_elemsM {P : Program} {s : St} {d : Nat} {e : TypeId} {l : List Leaf} (IH : ∀ {cs : List Value}, TyM P s d e cs → Leaf.Sms s l cs) :
    ∀ {n : Nat} {cs : List Value}, TyN (P.cellsOf e) (TyM P s d e) n cs → Leaf.Sms s (repL l n) cs
  | 0, cs, k => by unfold repL Leaf.Sms; exact k
  | n + 1, cs, k => by
    unfold repL
    have := Leaf.Sms.append (IH k.1) (are_elemsM IH k.2)
    rwa [List.take_append_drop] at this

theorem TyM.are {P : Program} {s : St} : ∀ {d : Nat} {t : TypeId} {cs : List Value} {l : List Leaf}, flat P d t = some l → TyM P s d t cs → Leaf.Sms s l cs
  | 0, _, _, _, h, _ => by simp [flat] at h
  | d + 1, t, cs, l, h, k => by
    unfold flat at h
    unfold TyM at k
    split at h
    · rename_i hu
      simp only [hu] at k
      obtain ⟨b, rfl⟩ := k
      cases h
      exact are_oneM (by unfold Leaf.Sm; exact ⟨b, rfl⟩)
    · rename_i kk hu
      simp only [hu] at k
      obtain ⟨n, rfl, hw⟩ := k
      cases h
      exact are_oneM (by unfold Leaf.Sm; exact ⟨n, rfl, hw⟩)
    · rename_i hu
      simp only [hu] at k
      obtain ⟨n, rfl, hw⟩ := k
      cases h
      exact are_oneM (by unfold Leaf.Sm; exact ⟨n, rfl, hw⟩)
    · rename_i e hu
      simp only [hu] at k
      split at h
      · rename_i le hle
        split at h
        · rename_i hlen
          cases h
          rcases k with rfl | ⟨b, len, cap, rows, rfl, h1, h2, h3, h4, h5⟩
          · exact are_oneM (by unfold Leaf.Sm; exact .inl rfl)
          · exact are_oneM (by unfold Leaf.Sm; exact .inr ⟨b, len, cap, rows, rfl, h1, h2, by rw [hlen]; exact h3, h4, fun r hr => TyM.are hle (h5 r hr)⟩)
        · simp at h
      · simp at h
    · rename_i fs hu
      simp only [hu] at k
      exact are_fieldsM (fun h k => TyM.are h k) h k
    · rename_i n e hu
      simp only [hu] at k
      split at h
      · rename_i le hle
        split at h
        · cases h
          exact are_elemsM (fun k => TyM.are hle k) k
        · simp at h
      · simp at h
    · simp at h

def ArgM (s : St) : Bool × List Leaf → Value → Prop
  | (true, l), v => ∃ cs, v = .agg ⟨cs⟩ ∧ Leaf.Sms s l cs
  | (false, l), v => Leaf.Sms s l [v]

def ArgsM (s : St) : List (Bool × List Leaf) → List Value → Prop
  | [], vs => vs = []
  | l :: ls, vs => ∃ u us, vs = u :: us ∧ ArgM s l u ∧ ArgsM s ls us

theorem TyMVs.args {P : Program} {s : St} {d : Nat} : ∀ {ts : List TypeId} {us : List Value} {ls : List (Bool × List Leaf)}, argLs P d ts = some ls → TyMVs P s d ts us → ArgsM s ls us
  | [], us, ls, h, k => by
    cases h
    cases us with
    | nil => rfl
    | cons u us => exact k.elim
  | t :: ts, us, ls, h, k => by
    cases us with
    | nil => exact k.elim
    | cons u us =>
      unfold argLs at h
      split at h
      · rename_i l ls' h1 h2
        cases h
        refine ⟨u, us, rfl, ?_, TyMVs.args h2 k.2⟩
        have k1 := k.1
        unfold argL aggT at h1
        unfold TyMV at k1
        split at h1
        · rename_i l0 a0 hl ha
          cases h1
          split at ha
          · rename_i hu
            cases ha
            simp only [hu] at k1
            obtain ⟨cs, rfl, k2⟩ := k1
            exact ⟨cs, rfl, TyM.are hl k2⟩
          · rename_i hu
            cases ha
            simp only [hu] at k1
            obtain ⟨cs, rfl, k2⟩ := k1
            exact ⟨cs, rfl, TyM.are hl k2⟩
          · rename_i n1 n2 hu
            cases ha
            refine TyM.are hl ?_
            split at k1
            · rename_i hx; exact absurd (hu.symm.trans hx |> Option.some.inj) (n1 _)
            · rename_i hx; exact absurd (hu.symm.trans hx |> Option.some.inj) (n2 _ _)
            · exact k1
          · simp at ha
        · simp at h1
      · simp at h
/-- THE ROW, by its arguments' cells. -/
theorem contractAM {B : (H : Type) → DataW H → Nat} (hB : ∀ H, IsBulk (B H)) {P : Program} {fid : FuncId} {fn : Func} {d : Nat} {tb : TypeId} {F : List Value → St → Option (Value × St)} {spec : ChangeSpec} {H : Type} {enc : TypeId × Value → H} {apart fresh handsOn again : Bool} {ls : List (Bool × List Leaf)}
    (hl : laidOutB P = true) (hts : fn.params.toList.all (fun t => tyOk P d t && P.readableRec t && decide (t < P.types.size)) = true)
    (hres : fn.resultTypes = #[tb]) (htb : P.underlying tb = some .bool) (hv : spec.vars = [])
    (hfn : ∀ ds : List (DataW H), ds.length = fn.params.size → (spec.fn H ds).results = [.lit (.bool true)] ∧ (spec.fn H ds).args = ds ∧ (spec.fn H ds).vars = [])
    (sound : FnOk P fid (.st F)) (hls : argLs P d fn.params.toList = some ls)
    (law : ∀ (φ : Phi) (s : St) (us vs : List Value) (W : World), Rel φ s W → AllRo s → ArgsM s ls us → VsRel φ us vs → ∃ φ1 s1 us1, Rel φ1 s1 W ∧ AllRo s1 ∧ VsRel φ1 us1 vs ∧ ∃ s', F us1 s1 = some (.bool true, s'))
    (W : World) (base : Nat) (args : Array Value) (ds gs : List (DataW H)) (before : List MemPlace)
    (hval : ∀ (j : Nat) t v, fn.params[j]? = some t → args[j]? = some v → Value.okWide P W .any base t v)
    (hk : ∀ y ∈ ds, B H y ≤ smallM) (hW : DataW.Whole enc P fn.params.toList spec.vars apart W args.toList ds gs before) :
    Calls P fid args W fun e W' => ∃ v, e = .returned v ∧ spec.post enc P fn apart fresh handsOn again W args v W' :=
  contractM hB hl hts hres htb hv hfn sound (fun φ s us vs W h1 h2 h3 h4 => law φ s us vs W h1 h2 (TyMVs.args hls h3) h4) W base args ds gs before hval hk hW

/-- A law that is shown at its own memory. -/
theorem law_hereM {F : List Value → St → Option (Value × St)} {ls : List (Bool × List Leaf)}
    (h : ∀ (s : St) (us : List Value), AllRo s → (∀ b, s.n ≤ b → s.get b = none) → ArgsM s ls us → ∃ s', F us s = some (.bool true, s'))
    (φ : Phi) (s : St) (us vs : List Value) (W : World) (hr : Rel φ s W) (ha : AllRo s) (h1 : ArgsM s ls us) (hv : VsRel φ us vs) :
    ∃ φ1 s1 us1, Rel φ1 s1 W ∧ AllRo s1 ∧ VsRel φ1 us1 vs ∧ ∃ s', F us1 s1 = some (.bool true, s') :=
  ⟨φ, s, us, hr, ha, hv, h s us ha (fun b hb => by
    cases hg : s.get b with
    | none => rfl
    | some k =>
      obtain ⟨l, hl1, _⟩ := hr.blk b k hg
      have := hr.fresh b l hl1
      omega) h1⟩
end Go.Sim
