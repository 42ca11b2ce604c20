/-
  An operation of the evaluator against the model's: the instructions by themselves.
-/
import Derived.Test.YtkkgegocliobpaaSimK
set_option linter.unusedSimpArgs false
namespace Go.Sim
open Go.RowKit (Below)

section
variable {P : Program} (w : World)

theorem toArray_of_toList {α : Type} {a : Array α} {l : List α} (h : a.toList = l) : a = ⟨l⟩ := by
  cases a; simp at h; rw [h]

theorem load_one {φ : Phi} {s : St} {t : TypeId} {v v' x : Value} (h : Rel φ s w) (ha : aggT P t = some false) (hv : VRel φ v v') (hx : ldc s v = some x) :
    ∃ x', (Instr.loadAt t v').run P w = .ok x' w ∧ VRel φ x x' := by
  obtain ⟨a, x', rfl, hc, hr⟩ := ldc_sound h hv hx
  refine ⟨x', ?_, hr⟩
  simp only [Instr.loadAt, Instr.sureAddr, loadVar, Sem.run_bind, Sem.run_pure, Result.andThen_ok, run_isAgg w ha, Bool.false_eq_true, if_false, run_load, hc]

theorem load_agg {φ : Phi} {s : St} {t : TypeId} {n : Nat} {v v' x : Value} (h : Rel φ s w) (ha : aggT P t = some true) (hn : sizeT P t = some n) (hv : VRel φ v v') (hx : lda s n v = some x) :
    ∃ x', (Instr.loadAt t v').run P w = .ok x' w ∧ VRel φ x x' := by
  obtain ⟨a, xs', rfl, hl, hc, hr⟩ := lda_sound h hv hx
  refine ⟨_, ?_, hr⟩
  subst hl
  have := run_loadCells_list (P := P) w a xs' hc
  simp only [Instr.loadAt, Instr.sureAddr, loadVar, Sem.run_bind, Sem.run_pure, Result.andThen_ok, run_isAgg w ha, if_true, run_sizeOf w hn, this]

/-- A cell of the call's own variable. -/
theorem load_one_l {φ : Phi} {t : TypeId} {cs : List Value} {c j : Nat} {x : Value} (h : LAt φ cs c w) (ha : aggT P t = some false) (hx : lcl cs j = some x) :
    ∃ x', (Instr.loadAt t (.pointer (some ⟨c, j, none⟩))).run P w = .ok x' w ∧ VRel φ x x' := by
  obtain ⟨_, cs', e, hh, hr⟩ := h
  obtain ⟨x', h1, h2⟩ := hr.get hx
  refine ⟨x', ?_, h2⟩
  have hc : w.cell? ⟨c, j, none⟩ = some x' := by rw [cell_at hh]; simpa using h1
  simp only [Instr.loadAt, Instr.sureAddr, loadVar, Sem.run_bind, Sem.run_pure, Result.andThen_ok, run_isAgg w ha, Bool.false_eq_true, if_false, run_load, hc]

theorem load_agg_l {φ : Phi} {t : TypeId} {cs : List Value} {c j n : Nat} {x : Value} (h : LAt φ cs c w) (ha : aggT P t = some true) (hn : sizeT P t = some n) (hx : lal cs j n = some x) :
    ∃ x', (Instr.loadAt t (.pointer (some ⟨c, j, none⟩))).run P w = .ok x' w ∧ VRel φ x x' := by
  obtain ⟨h1, cs', e, hh, hr⟩ := h
  simp only [lal] at hx
  split at hx
  · rename_i hle
    simp only [Option.some.injEq] at hx
    subst hx
    have hlen := hr.length
    have hl : ((cs'.toList.drop j).take n).length = n := by simp at hlen ⊢; omega
    refine ⟨_, ?_, .agg ((hr.drop j).take n) (oneCs_take _ (oneCs_drop _ h1))⟩
    have := run_loadCells_list (P := P) w ⟨c, j, none⟩ ((cs'.toList.drop j).take n) fun i v hv => by
      rw [Addr.add_mid, cell_at hh]
      rw [List.getElem?_take] at hv
      split at hv
      · rw [List.getElem?_drop] at hv; simpa using hv
      · simp at hv
    rw [hl] at this
    simp only [Instr.loadAt, Instr.sureAddr, loadVar, Sem.run_bind, Sem.run_pure, Result.andThen_ok, run_isAgg w ha, if_true, run_sizeOf w hn, this]
  · simp at hx

theorem cells_size (v : Value) : v.cells.size = (cellsL v).length := by
  rw [← cells_toList]; simp

theorem store_sound {φ : Phi} {s s' : St} {t : TypeId} {n : Nat} {p p' v v' : Value} (h : Rel φ s w) (hn : sizeT P t = some n) (hp : VRel φ p p') (hv : VRel φ v v') (hx : stv s n p v = some s') :
    ∃ w', (Instr.storeAt t p' v').run P w = .ok () w' ∧ Step φ s w φ s' w' := by
  simp only [stv] at hx
  cases hb : bx v with
  | none => simp [hb] at hx
  | some cs =>
    simp only [hb, Option.bind_some] at hx
    split at hx
    · rename_i hl
      obtain ⟨h1, h2, h3⟩ := bx_rel hv hb
      obtain ⟨a, w', rfl, hr, hs⟩ := sto_sound P h hp h1 h2 hx
      refine ⟨w', ?_, hs⟩
      have hsz : v'.cells.size = n := by rw [cells_size, ← h1.length, hl]
      simp only [Instr.storeAt, Instr.sureAddr, storeVar, Sem.run_bind, Sem.run_pure, Result.andThen_ok, run_sizeOf w hn, hsz, ne_eq, not_true_eq_false, if_false, cells_toList, hr]
    · simp at hx

/-- Into the call's own variable. -/
theorem store_l {φ : Phi} {t : TypeId} {cs cs2 : List Value} {c j n : Nat} {v v' : Value} (h : LAt φ cs c w) (hn : sizeT P t = some n) (hv : VRel φ v v') (hx : stl cs j n v = some cs2) :
    ∃ w' cs' e, (Instr.storeAt t (.pointer (some ⟨c, j, none⟩)) v').run P w = .ok () w' ∧ w'.heap[c]? = some (.cells cs' e (0, 0)) ∧ VsRel φ cs2 cs'.toList ∧ oneCs cs2 = true ∧
      (∀ i, i ≠ c → w'.heap[i]? = w.heap[i]?) ∧ w'.heap.size = w.heap.size ∧ w'.os = w.os ∧ w'.tape = w.tape ∧ w'.output = w.output := by
  obtain ⟨h1, cs', e, hh, hr⟩ := h
  simp only [stl] at hx
  cases hb : bx v with
  | none => simp [hb] at hx
  | some vs =>
    simp only [hb, Option.bind_some] at hx
    split at hx
    · rename_i hl
      simp only [Option.some.injEq] at hx
      subst hx
      obtain ⟨g1, g2, g3⟩ := bx_rel hv hb
      have hsz : v'.cells.size = n := by rw [cells_size, ← g1.length, hl.1]
      have hvl := g1.length
      have hlen := hr.length
      have hone : ∀ x ∈ cellsL v', x.oneCell' = true := by
        have ho := g1.oneCs
        rw [g2] at ho
        intro x hx
        obtain ⟨m, hm⟩ := List.getElem?_of_mem hx
        have := oneCs_get ho hm
        cases x <;> simp_all [oneC, Value.oneCell']
      have hle : j + 0 + (cellsL v').length ≤ cs'.size := by simp at hlen; omega
      have hrun := run_storeCells_at P c j e (cellsL v') 0 cs' w hh hle hone
      let nw : Array Value := (cs'.toList.take (j + 0) ++ cellsL v' ++ cs'.toList.drop (j + 0 + (cellsL v').length)).toArray
      refine ⟨w.setRow c nw, nw, e, ?_, setRow_heap w c cs' nw e _ hh, ?_, oneCs_spl h1 g2 (by omega), fun i hi => setRow_other w c i _ hi, by simp, rfl, rfl, rfl⟩
      · simp only [Instr.storeAt, Instr.sureAddr, storeVar, Sem.run_bind, Sem.run_pure, Result.andThen_ok, run_sizeOf w hn, hsz, ne_eq, not_true_eq_false, if_false, cells_toList, hrun, nw]
      · have hs := hr.spl j g1
        have he : spl cs'.toList j (cellsL v') = cs'.toList.take (j + 0) ++ cellsL v' ++ cs'.toList.drop (j + 0 + (cellsL v').length) := by
          apply List.ext_getElem?
          intro o
          rw [spl_get _ _ _ _ (by simp; omega)]
          by_cases ho : o < j
          · rw [if_neg (by omega), List.append_assoc, List.getElem?_append_left (by simp; omega)]
            simp [ho]
          · by_cases ho2 : o < j + (cellsL v').length
            · rw [if_pos (by omega), List.append_assoc, List.getElem?_append_right (by simp; omega), List.getElem?_append_left (by simp; omega)]
              congr 1
              simp; omega
            · rw [if_neg (by omega), List.append_assoc, List.getElem?_append_right (by simp; omega), List.getElem?_append_right (by simp; omega), List.getElem?_drop]
              congr 1
              simp; omega
        rw [he] at hs
        simpa [nw] using hs
    · simp at hx

theorem alloc_run {t : TypeId} {z : Value} (hz : zeroT P t = some z) :
    (Instr.alloc t true (.tuple #[])).run P w = .ok (.pointer (some ⟨w.heap.size, 0, none⟩)) (w.alloc (.cells ⟨cellsL z⟩ t)) := by
  simp only [Instr.alloc, Sem.run_bind, run_zeroValue w hz, Result.andThen_ok, newVar, newRow, Sem.run_pure, run_newObj, Result.andThen_ok, toArray_of_toList (cells_toList z), World.alloc]

theorem box_run (t : TypeId) (v : Value) :
    (Instr.box t v).run P w = .ok (.pointer (some ⟨w.heap.size, 0, none⟩)) (w.alloc (.cells ⟨cellsL v⟩ t)) := by
  simp only [Instr.box, Sem.run_bind, Result.andThen_ok, newVar, newRow, Sem.run_pure, run_newObj, Result.andThen_ok, toArray_of_toList (cells_toList v), World.alloc]

theorem alv_sound {φ : Phi} {s s' : St} {v v' r : Value} (t : TypeId) (h : Rel φ s w) (hv : VRel φ v v') (hx : alv s v = some (r, s')) :
    ∃ φ', VRel φ' r (.pointer (some ⟨w.heap.size, 0, none⟩)) ∧ Step φ s w φ' s' (w.alloc (.cells ⟨cellsL v'⟩ t)) := by
  simp only [alv] at hx
  cases hb : bx v with
  | none => simp [hb] at hx
  | some cs =>
    simp only [hb, Option.bind_some] at hx
    obtain ⟨h1, h2, _⟩ := bx_rel hv hb
    exact alc_sound t h h1 h2 hx

theorem iface_run {t : TypeId} {d : TypeDesc} {x : Value} (h : P.underlying t = some d) (hd : ∀ m, d ≠ .interface m) : (Instr.makeInterface t x).run P w = .ok (.iface t x) w := by
  simp only [Instr.makeInterface, Sem.run_bind, run_underlying h, Result.andThen_ok]
  cases d <;> first | rfl | exact absurd rfl (hd _)

theorem xtr_sound {φ : Phi} {i : Nat} {v v' r : Value} (hv : VRel φ v v') (hx : xtr i v = some r) : ∃ r', (Instr.extract v' i).run P w = .ok r' w ∧ VRel φ r r' := by
  cases hv <;> simp only [xtr, reduceCtorEq] at hx
  rename_i h
  obtain ⟨r', h1, h2⟩ := h.get hx
  refine ⟨r', ?_, h2⟩
  simp [Instr.extract, h1]

theorem lenS_sound {φ : Phi} {t ty : TypeId} {v v' r : Value} (ht : P.underlying t = some .string) (hv : VRel φ v v') (hx : lenS v = some r) :
    plainV r = true ∧ (Builtin.len_ #[t] ty #[v']).run P w = .ok r w := by
  cases hv <;> simp only [lenS, reduceCtorEq, Option.some.injEq] at hx
  subst hx
  exact ⟨rfl, by simp [Builtin.len_, run_underlying ht, goInt]⟩

theorem lenL_sound {φ : Phi} {t ty e : TypeId} {v v' r : Value} (ht : P.underlying t = some (.slice e)) (hv : VRel φ v v') (hx : lenL v = some r) :
    plainV r = true ∧ (Builtin.len_ #[t] ty #[v']).run P w = .ok r w := by
  cases hv <;> simp only [lenL, reduceCtorEq, Option.some.injEq] at hx <;> subst hx <;>
  exact ⟨rfl, by simp [Builtin.len_, run_underlying ht, goInt]⟩

theorem lenM_sound {φ : Phi} {s : St} {t ty k e : TypeId} {v v' r : Value} (h : Rel φ s w) (ht : P.underlying t = some (.map k e)) (hv : VRel φ v v') (hx : lenM s v = some r) :
    plainV r = true ∧ (Builtin.len_ #[t] ty #[v']).run P w = .ok r w := by
  cases hv <;> simp only [lenM, reduceCtorEq, Option.some.injEq] at hx
  case mnil =>
    subst hx
    exact ⟨rfl, by simp [Builtin.len_, run_underlying ht, goInt]⟩
  case map b l hb =>
    cases hg : s.get b with
    | none => simp [hg] at hx
    | some q =>
      cases q with
      | row sz rows ro => simp [hg] at hx
      | map es ro =>
        simp only [hg, Option.some.injEq] at hx
        subst hx
        obtain ⟨l2, g1, g2⟩ := h.blk b _ hg
        rw [hb] at g1
        simp only [Option.some.injEq] at g1
        subst g1
        obtain ⟨es', clk, f1, f2, _⟩ := g2
        refine ⟨rfl, ?_⟩
        have hobj : (getObj l.blk).run P w = .ok (.map es' clk) w := by simp [getObj, Sem.run, f1]
        simp [Builtin.len_, run_underlying ht, goInt, hobj, f2]

theorem mn2_sound {φ : Phi} {x x' y y' r : Value} (ts : Array TypeId) (ty : TypeId) (hx : VRel φ x x') (hy : VRel φ y y') (he : mn2 x y = some r) : plainV r = true ∧ (Builtin.min_ ts ty #[x', y']).run P w = .ok r w := by
  cases hx <;> simp only [mn2, reduceCtorEq] at he
  cases hy <;> simp only [mn2, reduceCtorEq, Option.some.injEq] at he
  subst he
  exact ⟨rfl, by simp [Builtin.min_, Builtin.min2]⟩

theorem mx2_sound {φ : Phi} {x x' y y' r : Value} (ts : Array TypeId) (ty : TypeId) (hx : VRel φ x x') (hy : VRel φ y y') (he : mx2 x y = some r) : plainV r = true ∧ (Builtin.max_ ts ty #[x', y']).run P w = .ok r w := by
  cases hx <;> simp only [mx2, reduceCtorEq] at he
  cases hy <;> simp only [mx2, reduceCtorEq, Option.some.injEq] at he
  subst he
  exact ⟨rfl, by simp [Builtin.max_, Builtin.max2]⟩

end
end Go.Sim
