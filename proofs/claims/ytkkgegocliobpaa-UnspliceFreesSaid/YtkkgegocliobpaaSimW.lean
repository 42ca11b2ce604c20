/-
  Arguments: what a reading of memory meets, as a heap of rows that nobody turns.
-/
import Derived.Test.YtkkgegocliobpaaSimVb
import Derived.ProofKit
import Derived.OpenShut
set_option linter.unusedSimpArgs false
set_option linter.unusedVariables false
namespace Go.Sim
open Go.RowKit (Below)

/-- Fields that follow one another without a gap, of types that `F` takes. -/
def fieldsOk (P : Program) (F : TypeId → Bool) : List Field → Nat → Nat → Bool
  | [], o, n => o == n
  | f :: r, o, n => f.offset == o && F f.type && fieldsOk P F r (o + P.cellsOf f.type) n

/-- The types of arguments that are taken. -/
def tyOk (P : Program) : Nat → TypeId → Bool
  | 0, _ => false
  | d + 1, t => match P.underlying t with
    | some .bool => true
    | some (.int _) => true
    | some .string => true
    | some (.slice e) => decide (0 < P.cellsOf e) && tyOk P d e
    | some (.struct fs) => fieldsOk P (tyOk P d) fs.toList 0 (P.cellsOf t)
    | some (.array n e) => decide (P.cellsOf t = n * P.cellsOf e) && tyOk P d e
    | _ => false

def TyFs (P : Program) (F : TypeId → List Value → Prop) : List Field → List Value → Prop
  | [], cs => cs = []
  | f :: r, cs => F f.type (cs.take (P.cellsOf f.type)) ∧ TyFs P F r (cs.drop (P.cellsOf f.type))

def TyN (n : Nat) (F : List Value → Prop) : Nat → List Value → Prop
  | 0, cs => cs = []
  | k + 1, cs => F (cs.take n) ∧ TyN n F k (cs.drop n)

/-- What abstract cells of a type look like. -/
def TyA (P : Program) (s : St) : Nat → TypeId → List Value → Prop
  | 0, _, _ => False
  | d + 1, t, cs => match P.underlying t with
    | some .bool => ∃ b, cs = [.bool b]
    | some (.int k) => ∃ n, cs = [.int k n] ∧ (Lit.int k n).wf = true
    | some .string => ∃ x : ByteArray, cs = [.string x] ∧ x.size ≤ maxLen
    | some (.slice e) => cs = [.slice none 0 0] ∨ ∃ b len cap rows, cs = [.slice (some ⟨b, 0, some 0⟩) len (2 * cap)] ∧ len ≤ cap ∧ cap ≤ maxLen ∧ s.get b = some (.row (P.cellsOf e) rows true) ∧ rows.length = cap ∧ ∀ r ∈ rows, TyA P s d e r
    | some (.struct fs) => TyFs P (TyA P s d) fs.toList cs
    | some (.array n e) => TyN (P.cellsOf e) (TyA P s d e) n cs
    | _ => False

theorem TyFs.mono {P : Program} {F G : TypeId → List Value → Prop} (h : ∀ t cs, F t cs → G t cs) : ∀ {fs : List Field} {cs : List Value}, TyFs P F fs cs → TyFs P G fs cs
  | [], _, e => e
  | _ :: _, _, ⟨h1, h2⟩ => ⟨h _ _ h1, TyFs.mono h h2⟩

theorem TyN.mono {n : Nat} {F G : List Value → Prop} (h : ∀ cs, F cs → G cs) : ∀ {k : Nat} {cs : List Value}, TyN n F k cs → TyN n G k cs
  | 0, _, e => e
  | _ + 1, _, ⟨h1, h2⟩ => ⟨h _ h1, TyN.mono h h2⟩

theorem TyA.ext {P : Program} {s s' : St} (h : Ext s s') : ∀ {d : Nat} {t : TypeId} {cs : List Value}, TyA P s d t cs → TyA P s' d t cs
  | 0, _, _, e => e.elim
  | d + 1, t, cs, e => by
    unfold TyA at *
    split at e
    · exact e
    · exact e
    · exact e
    · rcases e with e | ⟨b, len, cap, rows, h1, h2, h3, h4, h5, h6⟩
      · exact .inl e
      · exact .inr ⟨b, len, cap, rows, h1, h2, h3, h _ _ h4, h5, fun r hr => TyA.ext h (h6 r hr)⟩
    · exact TyFs.mono (fun _ _ => TyA.ext h) e
    · exact TyN.mono (fun _ => TyA.ext h) e
    · exact e.elim

/-- A heap of rows that nobody turns. -/
def AllRo (s : St) : Prop := ∀ b k, s.get b = some k → k.ro = true

theorem AllRo.nil (n : Nat) : AllRo ⟨[], n⟩ := fun b k h => by simp [St.get, getH] at h

theorem rel_nil (w : World) : Rel (fun _ => none) ⟨[], 0⟩ w := ⟨fun b l h => by simp at h, fun b k h => by simp [St.get, getH] at h, fun b c k k' l l' h => by simp [St.get, getH] at h⟩

/-- One row more. -/
theorem rel_ro {φ : Phi} {s : St} {w : World} {l : Loc} {sz : Nat} {rows : List (List Value)} (h : Rel φ s w) (ha : AllRo s) (hb : BRel φ l (.row sz rows true) w) :
    Rel (φ.add s.n l) (s.new (.row sz rows true)) w ∧ AllRo (s.new (.row sz rows true)) ∧ φ.le (φ.add s.n l) ∧ Ext s (s.new (.row sz rows true)) := by
  have hle := Phi.le_add h l
  have hro : AllRo (s.new (.row sz rows true)) := fun b k hk => by
    rw [St.get_new] at hk
    split at hk
    · simp only [Option.some.injEq] at hk; subst hk; rfl
    · exact ha b k hk
  refine ⟨⟨fun b l' hb' => ?_, fun b k hk => ?_, fun b c k k' l1 l2 h1 h2 hne hr => by rw [hro b k h1] at hr; cases hr⟩, hro, hle, ext_new s h.lt _⟩
  · simp only [Phi.add] at hb'
    split at hb'
    · rename_i e; subst e; simp
    · have := h.fresh b l' hb'; simp; omega
  · rw [St.get_new] at hk
    split at hk
    · rename_i e
      subst e
      simp only [Option.some.injEq] at hk
      subst hk
      exact ⟨l, Phi.add_self _ _ _, hb.of_same hle rfl⟩
    · obtain ⟨l', h1, h2⟩ := h.blk b k hk
      exact ⟨l', hle _ _ h1, h2.of_same hle rfl⟩

/-- What abstract cells stand for these, heap and all. -/
def Got (P : Program) (w : World) (φ : Phi) (s : St) (X : St → List Value → Prop) (cs : List Value) : Prop :=
  ∃ φ' s' abs, Rel φ' s' w ∧ AllRo s' ∧ φ.le φ' ∧ Ext s s' ∧ VsRel φ' abs cs ∧ oneCs abs = true ∧ X s' abs

theorem fieldsOk_le {P : Program} {F : TypeId → Bool} : ∀ {fs : List Field} {o n : Nat}, fieldsOk P F fs o n = true → o ≤ n
  | [], o, n, h => by simp only [fieldsOk, beq_iff_eq] at h; omega
  | f :: r, o, n, h => by
    simp only [fieldsOk, Bool.and_eq_true] at h
    have := fieldsOk_le h.2
    omega

def HasB (w : World) : Prop := ∃ (b : Nat) (cs : Array Value) (e : TypeId) (fz : Nat × Nat), w.heap[b]? = some (Obj.cells cs e fz)

def HB (w : World) (cs : List Value) : Prop := ∀ a len cap, Value.slice (some a) len cap ∈ cs → HasB w

section
variable {P : Program} {w : World} {H : Type} {enc : TypeId × Value → H} {held : Bool}

/-- One after the other. -/
theorem Got.append {φ : Phi} {s : St} {X Y Z : St → List Value → Prop} {cs ds : List Value} (h1 : Got P w φ s X cs) (h2 : ∀ φ' s', Rel φ' s' w → AllRo s' → Got P w φ' s' Y ds)
    (hm : ∀ s' s'' abs, Ext s' s'' → X s' abs → X s'' abs) (hz : ∀ s' a b, a.length = cs.length → X s' a → Y s' b → Z s' (a ++ b)) : Got P w φ s Z (cs ++ ds) := by
  obtain ⟨φ1, s1, a, r1, r2, r3, r4, r5, r6, r7⟩ := h1
  obtain ⟨φ2, s2, b, q1, q2, q3, q4, q5, q6, q7⟩ := h2 φ1 s1 r1 r2
  refine ⟨φ2, s2, a ++ b, q1, q2, r3.trans q3, r4.trans q4, (r5.mono q3).append q5, ?_, hz s2 a b r5.length (hm _ _ _ q4 r7) q7⟩
  refine oneCs_of fun i v hv => ?_
  rw [List.getElem?_append] at hv
  split at hv
  · exact oneCs_get r6 hv
  · exact oneCs_get q6 hv

theorem got_fields {d : Nat} {full : List Value}
    (IH : ∀ {t : TypeId} {cs : List Value} {m : Nat} {y : DataW H × List MemPlace} {φ : Phi} {s : St}, tyOk P d t = true → DataW.trod enc P w 0 (fun _ => true) held m t cs = some y → HB w cs → Rel φ s w → AllRo s → Got P w φ s (fun s' abs => TyA P s' d t abs) cs) :
    ∀ (fs : List Field) (o : Nat) {φ : Phi} {s : St}, fieldsOk P (tyOk P d) fs o full.length = true → (∀ f ∈ fs, ∃ m y, DataW.trod enc P w 0 (fun _ => true) held m f.type ((full.drop f.offset).take (P.cellsOf f.type)) = some y) → HB w full → Rel φ s w → AllRo s →
      Got P w φ s (fun s' abs => TyFs P (TyA P s' d) fs abs) (full.drop o)
  | [], o, φ, s, hf, _, _, hr, ha => by
    simp only [fieldsOk, beq_iff_eq] at hf
    have : full.drop o = [] := by rw [hf]; simp
    rw [this]
    exact ⟨φ, s, [], hr, ha, .refl _, .refl s, .nil, rfl, rfl⟩
  | f :: r, o, φ, s, hf, ht, hb, hr, ha => by
    simp only [fieldsOk, Bool.and_eq_true, beq_iff_eq] at hf
    obtain ⟨⟨rfl, h2⟩, h3⟩ := hf
    obtain ⟨m, y, hy⟩ := ht f (by simp)
    have hlen : ((full.drop f.offset).take (P.cellsOf f.type)).length = P.cellsOf f.type := by
      have := fieldsOk_le h3
      simp; omega
    have e : full.drop f.offset = (full.drop f.offset).take (P.cellsOf f.type) ++ full.drop (f.offset + P.cellsOf f.type) := by
      rw [← List.drop_drop, List.take_append_drop]
    rw [e]
    refine Got.append (IH h2 hy (fun a len cap hm => hb a len cap (List.mem_of_mem_drop (List.mem_of_mem_take hm))) hr ha) (fun φ' s' hr' ha' => got_fields IH r _ h3 (fun g hg => ht g (by simp [hg])) hb hr' ha')
      (fun s' s'' abs he h => TyA.ext he h) fun s' a b hl h4 h5 => ?_
    rw [hlen] at hl
    refine ⟨?_, ?_⟩
    · rw [← hl, List.take_left']
      · exact h4
      · rfl
    · rw [← hl, List.drop_left']
      · exact h5
      · rfl

theorem hasB_of_cell {a : Addr} {v : Value} (h : w.cell? a = some v) : HasB w := by
  unfold World.cell? at h
  split at h
  · rename_i cs e fz hh
    exact ⟨_, cs, e, fz, hh⟩
  · simp at h

theorem got_elems {d n : Nat} {e : TypeId} {full : List Value}
    (IH : ∀ {t : TypeId} {cs : List Value} {m : Nat} {y : DataW H × List MemPlace} {φ : Phi} {s : St}, tyOk P d t = true → DataW.trod enc P w 0 (fun _ => true) held m t cs = some y → HB w cs → Rel φ s w → AllRo s → Got P w φ s (fun s' abs => TyA P s' d t abs) cs)
    (he : tyOk P d e = true) (hl : full.length = n * P.cellsOf e) (hb : HB w full) (ht : ∀ i, i < n → ∃ m y, DataW.trod enc P w 0 (fun _ => true) held m e ((full.drop (i * P.cellsOf e)).take (P.cellsOf e)) = some y) :
    ∀ (k i : Nat) {φ : Phi} {s : St}, i + k = n → Rel φ s w → AllRo s → Got P w φ s (fun s' abs => TyN (P.cellsOf e) (TyA P s' d e) k abs) (full.drop (i * P.cellsOf e))
  | 0, i, φ, s, hi, hr, ha => by
    have : full.drop (i * P.cellsOf e) = [] := by
      apply List.drop_eq_nil_of_le
      rw [hl, ← hi]; simp
    rw [this]
    exact ⟨φ, s, [], hr, ha, .refl _, .refl s, .nil, rfl, rfl⟩
  | k + 1, i, φ, s, hi, hr, ha => by
    obtain ⟨m, y, hy⟩ := ht i (by omega)
    have hlen : ((full.drop (i * P.cellsOf e)).take (P.cellsOf e)).length = P.cellsOf e := by
      have : (i + 1) * P.cellsOf e ≤ n * P.cellsOf e := Nat.mul_le_mul_right _ (by omega)
      rw [Nat.succ_mul] at this
      simp; omega
    have e2 : full.drop (i * P.cellsOf e) = (full.drop (i * P.cellsOf e)).take (P.cellsOf e) ++ full.drop ((i + 1) * P.cellsOf e) := by
      rw [Nat.succ_mul, ← List.drop_drop, List.take_append_drop]
    rw [e2]
    refine Got.append (IH he hy (fun a len cap hm => hb a len cap (List.mem_of_mem_drop (List.mem_of_mem_take hm))) hr ha) (fun φ' s' hr' ha' => got_elems IH he hl hb ht k (i + 1) (by omega) hr' ha')
      (fun s' s'' abs he h => TyA.ext he h) fun s' a b hl2 h4 h5 => ?_
    rw [hlen] at hl2
    refine ⟨?_, ?_⟩
    · rw [List.take_left' hl2]
      exact h4
    · rw [List.drop_left' hl2]
      exact h5

theorem got_rows {d : Nat} {e : TypeId} {a : Addr}
    (IH : ∀ {t : TypeId} {cs : List Value} {m : Nat} {y : DataW H × List MemPlace} {φ : Phi} {s : St}, tyOk P d t = true → DataW.trod enc P w 0 (fun _ => true) held m t cs = some y → HB w cs → Rel φ s w → AllRo s → Got P w φ s (fun s' abs => TyA P s' d t abs) cs)
    (he : tyOk P d e = true) (h0 : 0 < P.cellsOf e) : ∀ (n : Nat) {φ : Phi} {s : St}, (∀ i, i < n → ∃ m y, (w.cells? 0 (a.add (i * P.cellsOf e)) (P.cellsOf e)).bind (DataW.trod enc P w 0 (fun _ => true) held m e) = some y) → Rel φ s w → AllRo s →
      ∃ (φ' : Phi) (s' : St) (rows : List (List Value)), Rel φ' s' w ∧ AllRo s' ∧ φ.le φ' ∧ Ext s s' ∧ rows.length = n ∧ ∀ (i : Nat) r, rows[i]? = some r → r.length = P.cellsOf e ∧ oneCs r = true ∧ TyA P s' d e r ∧ ∀ (j : Nat) v, r[j]? = some v → ∃ u, w.cell? ((a.add (i * P.cellsOf e)).add j) = some u ∧ VRel φ' v u
  | 0, φ, s, _, hr, ha => ⟨φ, s, [], hr, ha, .refl _, .refl s, rfl, fun i r h => by simp at h⟩
  | n + 1, φ, s, ht, hr, ha => by
    obtain ⟨φ1, s1, rows, r1, r2, r3, r4, r5, r6⟩ := got_rows IH he h0 n (fun i hi => ht i (by omega)) hr ha
    obtain ⟨m, y, hy⟩ := ht n (by omega)
    rw [Option.bind_eq_some_iff] at hy
    obtain ⟨cs, hcs, hy⟩ := hy
    obtain ⟨_, hl, hc⟩ := World.cells?_some hcs
    have hB : HasB w := by
      have := hc 0 h0
      have hx : ∃ v, cs[0]? = some v := ⟨cs[0]'(by omega), List.getElem?_eq_getElem (by omega)⟩
      obtain ⟨v, hv⟩ := hx
      rw [hv] at this
      exact hasB_of_cell this
    obtain ⟨φ2, s2, abs, q1, q2, q3, q4, q5, q6, q7⟩ := IH he hy (fun _ _ _ _ => hB) r1 r2
    refine ⟨φ2, s2, rows ++ [abs], q1, q2, r3.trans q3, r4.trans q4, by simp [r5], fun i r hi => ?_⟩
    rw [List.getElem?_append] at hi
    split at hi
    · obtain ⟨f1, f2, f3, f4⟩ := r6 i r hi
      refine ⟨f1, f2, TyA.ext q4 f3, fun j v hv => ?_⟩
      obtain ⟨u, g1, g2⟩ := f4 j v hv
      exact ⟨u, g1, g2.mono q3⟩
    · rename_i hge
      have hin : i = n := by
        have := (List.getElem?_eq_some_iff.1 hi).1
        simp at this
        omega
      subst hin
      rw [r5] at hi
      simp at hi
      subst hi
      refine ⟨by rw [q5.length, hl], q6, q7, fun j v hv => ?_⟩
      obtain ⟨u, g1, g2⟩ := q5.get hv
      have hj : j < P.cellsOf e := by
        have := (List.getElem?_eq_some_iff.1 g1).1
        omega
      exact ⟨u, by rw [hc j hj]; exact g1, g2⟩

theorem args_abs : ∀ (d : Nat) {t : TypeId} {cs : List Value} {m : Nat} {y : DataW H × List MemPlace} {φ : Phi} {s : St}, tyOk P d t = true → DataW.trod enc P w 0 (fun _ => true) held m t cs = some y → HB w cs → Rel φ s w → AllRo s →
    Got P w φ s (fun s' abs => TyA P s' d t abs) cs
  | 0, t, cs, m, y, φ, s, h, _, _, _, _ => by simp [tyOk] at h
  | d + 1, t, cs, m, y, φ, s, h, ht, hb, hr, ha => by
    have one : ∀ {v : Value}, plainV v = true → oneC v = true → TyA P s (d + 1) t [v] → Got P w φ s (fun s' abs => TyA P s' (d + 1) t abs) [v] := fun h1 h2 h3 =>
      ⟨φ, s, _, hr, ha, .refl _, .refl s, .cons (VRel.of_plain φ h1) .nil, by simp [oneCs, h2], h3⟩
    unfold tyOk at h
    split at h
    · rename_i hu
      obtain ⟨b, rfl, _⟩ := DataW.trod_bool hu ht
      exact one rfl rfl (by simp [TyA, hu])
    · rename_i k hu
      obtain ⟨n, rfl, _, hw⟩ := DataW.trod_int hu ht
      exact one rfl rfl (by simp [TyA, hu, hw])
    · rename_i hu
      obtain ⟨x, rfl, _, hw⟩ := DataW.trod_string hu ht
      exact one rfl rfl (by simp [TyA, hu, hw])
    · rename_i e hu
      simp only [Bool.and_eq_true, decide_eq_true_eq] at h
      obtain ⟨h0, he⟩ := h
      rcases DataW.trod_slice hu ht with ⟨rfl, _⟩ | ⟨a, len, cap, elems, rest, n, _, rfl, _, _, hlc, hmax, hel, hels, hsp, _⟩
      · exact one rfl rfl (by simp [TyA, hu])
      · obtain ⟨hrl, hre⟩ := hsp rfl
        have hall : ∀ i, i < cap → ∃ m y, (w.cells? 0 (a.add (i * P.cellsOf e)) (P.cellsOf e)).bind (DataW.trod enc P w 0 (fun _ => true) held m e) = some y := by
          intro i hi
          by_cases hil : i < len
          · exact ⟨n, elems[i]'(by omega), by rw [hels i hil]; exact List.getElem?_eq_getElem (by omega)⟩
          · refine ⟨n, rest[i - len]'(by omega), ?_⟩
            have := hre (i - len) (by omega)
            rw [show len + (i - len) = i by omega] at this
            rw [this]
            exact List.getElem?_eq_getElem (by omega)
        obtain ⟨φ1, s1, rows, r1, r2, r3, r4, r5, r6⟩ := got_rows (fun h1 h2 h3 h4 h5 => args_abs d h1 h2 h3 h4 h5) he h0 cap hall hr ha
        obtain ⟨b, cs0, e0, fz0, hB⟩ := hb a len cap (by simp)
        have key : ∃ l : Loc, BRel φ1 l (.row (P.cellsOf e) rows true) w ∧ l.cap = cap ∧ l.sz = P.cellsOf e ∧ (cap ≠ 0 → a = ⟨l.blk, l.off, none⟩) := by
          by_cases hc0 : cap = 0
          · subst hc0
            have : rows = [] := List.length_eq_zero_iff.1 r5
            subst this
            exact ⟨⟨b, 0, P.cellsOf e, 0⟩, ⟨rfl, by simp, cs0, e0, fz0, hB, by simp, fun i r hi => by simp at hi, fun hx => by cases hx⟩, rfl, rfl, fun h => absurd rfl h⟩
          · have cell : ∀ i j, i < cap → j < P.cellsOf e → ∃ r v u, rows[i]? = some r ∧ r[j]? = some v ∧ w.cell? ((a.add (i * P.cellsOf e)).add j) = some u := by
              intro i j hi hj
              have hr1 : rows[i]? = some (rows[i]'(by omega)) := List.getElem?_eq_getElem (by omega)
              obtain ⟨g1, _, _, g4⟩ := r6 i _ hr1
              have hv : (rows[i]'(by omega))[j]? = some ((rows[i]'(by omega))[j]'(by omega)) := List.getElem?_eq_getElem (by omega)
              obtain ⟨u, g5, _⟩ := g4 j _ hv
              exact ⟨_, _, u, hr1, hv, g5⟩
            obtain ⟨blk, off, spot⟩ := a
            obtain ⟨_, _, u0, _, _, hu0⟩ := cell 0 0 (by omega) h0
            have hspot : spot = none := by
              unfold World.cell? at hu0
              simp only [Addr.add, Nat.zero_mul, if_true] at hu0
              cases spot with
              | none => rfl
              | some q => split at hu0 <;> simp at hu0
            subst hspot
            have hblk : ∃ cs e fz, w.heap[blk]? = some (Obj.cells cs e fz) := by
              unfold World.cell? at hu0
              simp only [Addr.add, Nat.zero_mul, if_true] at hu0
              split at hu0
              · rename_i c x fz hh; exact ⟨_, _, _, hh⟩
              · simp at hu0
            obtain ⟨cs1, e1, fz1, hh⟩ := hblk
            have hadd : ∀ i j, w.cell? (((⟨blk, off, none⟩ : Addr).add (i * P.cellsOf e)).add j) = cs1[off + i * P.cellsOf e + j]? := fun i j => by
              rw [Addr.add_mid, Addr.add_mid, cell_at hh]
            refine ⟨⟨blk, off, P.cellsOf e, cap⟩, ⟨rfl, by rw [r5]; exact Nat.le_refl _, cs1, e1, fz1, hh, ?_, fun i r hi => ?_, fun hx => by cases hx⟩, rfl, rfl, fun _ => rfl⟩
            · obtain ⟨_, _, u, _, _, hu2⟩ := cell (cap - 1) (P.cellsOf e - 1) (by omega) (by omega)
              rw [hadd] at hu2
              have hlt := (Array.getElem?_eq_some_iff.1 hu2).1
              have : cap * P.cellsOf e = (cap - 1) * P.cellsOf e + P.cellsOf e := by
                rw [← Nat.succ_mul]; congr 1; omega
              show off + cap * P.cellsOf e ≤ cs1.size
              omega
            · obtain ⟨g1, g2, _, g4⟩ := r6 i r hi
              refine ⟨g1, g2, fun j v hv => ?_⟩
              obtain ⟨u, g5, g6⟩ := g4 j v hv
              rw [hadd] at g5
              exact ⟨u, g5, g6⟩
        obtain ⟨l, hBR, hcap, hsz, haddr⟩ := key
        obtain ⟨q1, q2, q3, q4⟩ := rel_ro r1 r2 hBR
        refine ⟨_, _, [.slice (some ⟨s1.n, 0, some 0⟩) len (2 * cap)], q1, q2, r3.trans q3, r4.trans q4, .cons (.slice (l := l) (Phi.add_self _ _ _) hlc (by omega) (fun hc => by rw [haddr hc]; simp) (.inr rfl)) .nil, rfl, ?_⟩
        simp only [TyA, hu]
        exact .inr ⟨s1.n, len, cap, rows, rfl, hlc, hmax, by rw [St.get_new, if_pos rfl], r5, fun r hm => by
          obtain ⟨i, hi⟩ := List.getElem?_of_mem hm
          exact TyA.ext q4 (r6 i r hi).2.2.1⟩
    · rename_i fs hu
      obtain ⟨xs, n, _, _, hlen, hxl, hx⟩ := DataW.trod_struct hu ht
      have := got_fields (fun h1 h2 h3 h4 h5 => args_abs d h1 h2 h3 h4 h5) fs.toList 0 (full := cs) (by rw [hlen]; exact h) (fun f hf => by
        obtain ⟨i, hi⟩ := List.getElem?_of_mem hf
        have hi' : fs[i]? = some f := by simpa using hi
        have hlt : i < fs.size := (Array.getElem?_eq_some_iff.1 hi').1
        exact ⟨n, xs[i]'(by omega), by rw [hx i f hi']; exact List.getElem?_eq_getElem (by omega)⟩) hb hr ha
      simpa [TyA, hu] using this
    · rename_i n e hu
      simp only [Bool.and_eq_true, decide_eq_true_eq] at h
      obtain ⟨xs, q, _, _, hlen, hxl, hx⟩ := DataW.trod_array hu ht
      have := got_elems (fun h1 h2 h3 h4 h5 => args_abs d h1 h2 h3 h4 h5) h.2 (n := n) (full := cs) (by rw [hlen]; exact h.1) hb (fun i hi => ⟨q, xs[i]'(by omega), by rw [hx i hi]; exact List.getElem?_eq_getElem (by omega)⟩) n 0 (by omega) hr ha
      simpa [TyA, hu] using this
    · simp at h

end
end Go.Sim
