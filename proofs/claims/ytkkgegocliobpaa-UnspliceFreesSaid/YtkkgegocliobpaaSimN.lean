/-
  An operation of the evaluator against the model's: all of them.
-/
import Derived.Test.YtkkgegocliobpaaSimM
set_option linter.unusedSimpArgs false
set_option linter.unusedVariables false
namespace Go.Sim
open Go.RowKit (Below)

section
variable {P : Program} {C : Ctx} {an : An} {φ : Phi} {ψ : Nat → Option Nat} {fr : Fr} {s : St} {a : Act} {w : World} {og : Option (Nat × Bool)} {ops : Array Oper}
  {dst : Option Tmp} {ty : TypeId} {pos : String} {after : Array Edge} {guard : Option (Nat × Bool)}

theorem run_v {m : Sem Value} {u : Value} {w w' : World} (h : m.run P w = .ok u w') : (do pure (Next.value (← m)) : Sem Next).run P w = .ok (.value u) w' := by
  simp only [Sem.run_bind, h, Result.andThen_ok, Sem.run_pure]

theorem run_u {m : Sem Unit} {w w' : World} (h : m.run P w = .ok () w') : (do m; pure Next.skip : Sem Next).run P w = .ok .skip w' := by
  simp only [Sem.run_bind, h, Result.andThen_ok, Sem.run_pure]

theorem pik_sound {c c' x x' y y' r : Value} (hc : VRel φ c c') (hx : VRel φ x x') (hy : VRel φ y y') (h : pik c x y = some r) :
    ∃ r', (do pure (Next.value (if ← asBool c' then x' else y')) : Sem Next).run P w = .ok (.value r') w ∧ VRel φ r r' := by
  cases hc <;> simp only [pik, reduceCtorEq] at h
  rename_i b
  cases b <;> simp only [pik, Option.some.injEq] at h <;> subst h
  · exact ⟨y', by simp [asBool], hy⟩
  · exact ⟨x', by simp [asBool], hx⟩

theorem cvi_sound {src dt : TypeId} {d : TypeDesc} {k : IntKind} {v v' r : Value} (hs : P.underlying src = some d) (hd : P.underlying dt = some (.int k)) (hv : VRel φ v v') (h : cvi k v = some r) :
    plainV r = true ∧ (convert src dt v').run P w = .ok r w := by
  cases hv <;> simp only [cvi, reduceCtorEq, Option.some.injEq] at h
  subst h
  refine ⟨rfl, ?_⟩
  simp [convert, run_underlying hs, run_underlying hd, Conv.intToInt]

theorem cvs_sound {src dt : TypeId} {v v' r : Value} (hs : P.underlying src = some .string) (hd : P.underlying dt = some .string) (hv : VRel φ v v') (h : cvs v = some r) :
    plainV r = true ∧ (convert src dt v').run P w = .ok r w := by
  cases hv <;> simp only [cvs, reduceCtorEq, Option.some.injEq] at h
  subst h
  refine ⟨rfl, ?_⟩
  simp [convert, run_underlying hs, run_underlying hd]

theorem cvl_sound {s s' : St} {src dt e e2 : TypeId} {v v' r : Value} (h : Rel φ s w) (hs : P.underlying src = some (.slice e2)) (hd : P.underlying dt = some (.slice e)) (he : P.underlying e = some (.int .u8)) (hsd : src = dt) (hv : VRel φ v v') (hx : cvl s v = some (r, s')) :
    ∃ w', (convert src dt v').run P w = .ok v' w' ∧ VRel φ r v' ∧ Step φ s w φ s' w' := by
  cases hv with
  | slice hl h1 h2 h3 h4 =>
    rename_i b i len ec c a l
    simp only [cvl] at hx
    split at hx
    · rename_i sz rows hg
      split at hx
      · simp at hx
      · rename_i hlen
        simp only [Option.some.injEq, Prod.mk.injEq] at hx
        obtain ⟨rfl, rfl⟩ := hx
        have ha := h3 (by omega)
        have hB := h.at hg hl
        obtain ⟨k1, k2, cs, et, fz, hh, k3, k4, k5⟩ := hB
        have hfz := k5 rfl
        subst hfz
        subst ha
        have hsh : w.shape? l.blk = some (et, cs.size) := by simp [World.shape?, hh]
        refine ⟨w.freeze ⟨l.blk, cs.size, none⟩ 1, ?_, .slice hl h1 h2 h3 h4, ?_⟩
        · subst hsd
          have hee : e2 = e := by simpa using hs.symm.trans hd
          subst hee
          simp [convert, run_underlying hs, run_underlying he, markStringish, hsh]
        · have hlt : l.blk < w.heap.size := (Array.getElem?_eq_some_iff.1 hh).1
          refine put_step h hg rfl hl ?_ (fun c hc => ?_) ?_ rfl rfl rfl
          · refine ⟨k1, k2, cs, et, (cs.size, cs.size + 1), ?_, k3, k4, fun e => by cases e⟩
            simp [World.freeze, Array.getElem?_modify, hh]
          · simp [World.freeze, Array.getElem?_modify, Ne.symm hc]
          · simp [World.freeze]
    · simp at hx
  | _ => simp [cvl] at hx

theorem spec_v {o : Oper} {m : Option Value} (h : ∀ v, m = some v → ∃ u, Gives P o a w u ∧ VRel φ v u) : OpSpec P φ ψ fr s o a w (.v m) :=
  fun v hv => .inl (h v hv)

theorem spec_plain {o : Oper} {m : Option Value} (h : ∀ v, m = some v → plainV v = true ∧ Gives P o a w v) : OpSpec P φ ψ fr s o a w (.v m) :=
  fun v hv => .inl ⟨v, (h v hv).2, VRel.of_plain φ (h v hv).1⟩

theorem op_move (he : EnvRel φ ψ fr a) (hg : GOk a og) (x : Operand) (op : Op) (hop : op = .move x ∨ op = .assign x) : OpSpec P φ ψ fr s ⟨dst, op, ty, pos, after, guard⟩ a w (opR std P C an fr s og ⟨dst, op, ty, pos, after, guard⟩) := by
  have hgv : Gives P ⟨dst, op, ty, pos, after, guard⟩ a w (a.eval x) := by rcases hop with rfl | rfl <;> rfl
  have e : opR std P C an fr s og ⟨dst, op, ty, pos, after, guard⟩ = match evE fr og x with
    | some (.val v) => .k v
    | some (.lp t j) => .p t j
    | none => .bad := by rcases hop with rfl | rfl <;> rfl
  rw [e]
  cases hx : evE fr og x with
  | none => exact trivial
  | some q =>
    have := evE_sound he hg hx
    cases q with
    | val v => exact ⟨_, hgv, this⟩
    | lp t j =>
      obtain ⟨c, h1, h2⟩ := this
      exact ⟨c, h1, h2 ▸ hgv⟩

theorem op_pick (he : EnvRel φ ψ fr a) (c x y : Operand) : OpSpec P φ ψ fr s ⟨dst, .pick c x y, ty, pos, after, guard⟩ a w (opR std P C an fr s og ⟨dst, .pick c x y, ty, pos, after, guard⟩) := by
  simp only [opR]
  split
  · rename_i c0 x0 y0 h1 h2 h3
    refine spec_v fun v hv => ?_
    obtain ⟨r', h4, h5⟩ := pik_sound (P := P) (w := w) (evV_sound he h1) (evV_sound he h2) (evV_sound he h3) hv
    exact ⟨r', h4, h5⟩
  · exact trivial

theorem op_alloc (hr : Rel φ s w) (t : TypeId) : OpSpec P φ ψ fr s ⟨dst, .alloc t, ty, pos, after, guard⟩ a w (opR std P C an fr s og ⟨dst, .alloc t, ty, pos, after, guard⟩) := by
  simp only [opR]
  split
  · rename_i z hz
    split
    · rename_i hp
      have hrun : (execOp a.eval ⟨dst, .alloc t, ty, pos, after, guard⟩).run P w = .ok (.value (.pointer (some ⟨w.heap.size, 0, none⟩))) (w.alloc (.cells ⟨cellsL z⟩ t)) := run_v (alloc_run w hz)
      cases dst with
      | none => exact trivial
      | some d =>
        simp only
        split
        · intro cs hcs
          obtain ⟨h1, h2, h3⟩ := bx_rel (VRel.of_plain φ hp) hcs
          exact ⟨rfl, _, t, h1, h2, hrun⟩
        · intro r s' hx
          obtain ⟨φ', h1, h2⟩ := alv_sound w t hr (VRel.of_plain φ hp) hx
          exact does_value hrun ⟨φ', h2, h1⟩
    · exact trivial
  · exact trivial

theorem op_box (he : EnvRel φ ψ fr a) (hr : Rel φ s w) (t : TypeId) (x : Operand) : OpSpec P φ ψ fr s ⟨dst, .box t x, ty, pos, after, guard⟩ a w (opR std P C an fr s og ⟨dst, .box t x, ty, pos, after, guard⟩) := by
  simp only [opR]
  split
  · rename_i v hv
    have hrun : (execOp a.eval ⟨dst, .box t x, ty, pos, after, guard⟩).run P w = .ok (.value (.pointer (some ⟨w.heap.size, 0, none⟩))) (w.alloc (.cells ⟨cellsL (a.eval x)⟩ t)) := run_v (box_run w t _)
    have hvr := evV_sound he hv
    cases dst with
    | none => exact trivial
    | some d =>
      simp only
      split
      · intro cs hcs
        obtain ⟨h1, h2, h3⟩ := bx_rel hvr hcs
        exact ⟨rfl, _, t, h1, h2, hrun⟩
      · intro r s' hx
        obtain ⟨φ', h1, h2⟩ := alv_sound w t hr hvr hx
        exact does_value hrun ⟨φ', h2, h1⟩
  · exact trivial

theorem op_load (he : EnvRel φ ψ fr a) (hg : GOk a og) (t : TypeId) (x : Operand) (hl : ∀ t' j, evE fr og x = some (.lp t' j) → LocRel φ ψ fr w) (hr : ∀ v, evE fr og x = some (.val v) → Rel φ s w) :
    OpSpec P φ ψ fr s ⟨dst, .load t x, ty, pos, after, guard⟩ a w (opR std P C an fr s og ⟨dst, .load t x, ty, pos, after, guard⟩) := by
  simp only [opR]
  split
  · rename_i n v h1 h2 h3
    refine spec_v fun u hu => ?_
    obtain ⟨x', h4, h5⟩ := load_agg w (hr v h3) h1 h2 (evE_sound he hg h3) hu
    exact ⟨x', run_v h4, h5⟩
  · rename_i n v h1 h2 h3
    refine spec_v fun u hu => ?_
    obtain ⟨x', h4, h5⟩ := load_one w (hr v h3) h1 (evE_sound he hg h3) hu
    exact ⟨x', run_v h4, h5⟩
  · rename_i agg n t' j h1 h2 h3
    obtain ⟨c, g1, g2⟩ := evE_sound he hg h3
    split
    · rename_i cs hcs
      obtain ⟨c', f1, f2⟩ := hl t' j h3 t' cs hcs
      rw [g1] at f1
      simp only [Option.some.injEq] at f1
      subst f1
      cases agg with
      | true =>
        refine spec_v fun u hu => ?_
        obtain ⟨x', h4, h5⟩ := load_agg_l w f2 h1 h2 hu
        exact ⟨x', run_v (by rw [g2]; exact h4), h5⟩
      | false =>
        refine spec_v fun u hu => ?_
        obtain ⟨x', h4, h5⟩ := load_one_l w f2 h1 hu
        exact ⟨x', run_v (by rw [g2]; exact h4), h5⟩
    · exact trivial
  · exact trivial

theorem op_store (he : EnvRel φ ψ fr a) (hg : GOk a og) (t : TypeId) (x y : Operand) (hl : LocRel φ ψ fr w) (hr : Rel φ s w) :
    OpSpec P φ ψ fr s ⟨dst, .store t x y, ty, pos, after, guard⟩ a w (opR std P C an fr s og ⟨dst, .store t x y, ty, pos, after, guard⟩) := by
  simp only [opR]
  split
  · rename_i n p v h1 h2 h3
    intro s' hs
    obtain ⟨w', g1, g2⟩ := store_sound w hr h1 (evE_sound he hg h2) (evV_sound he h3) hs
    exact does_skip (run_u g1) ⟨rfl, g2⟩
  · rename_i n t' j v h1 h2 h3
    obtain ⟨c, g1, g2⟩ := evE_sound he hg h2
    split
    · rename_i cs hcs
      obtain ⟨c', f1, f2⟩ := hl t' cs hcs
      rw [g1] at f1
      simp only [Option.some.injEq] at f1
      subst f1
      intro cs2 hx
      obtain ⟨w', cs', e, q1, q2, q3, q4, q5⟩ := store_l w f2 h1 (evV_sound he h3) hx
      exact ⟨cs, c, w', cs', e, hcs, g1, run_u (by rw [g2]; exact q1), q2, q3, q4, q5⟩
    · exact trivial
  · exact trivial

theorem op_nilCheck (he : EnvRel φ ψ fr a) (hg : GOk a og) (x : Operand) : OpSpec P φ ψ fr s ⟨dst, .nilCheck x, ty, pos, after, guard⟩ a w (opR std P C an fr s og ⟨dst, .nilCheck x, ty, pos, after, guard⟩) := by
  simp only [opR]
  split
  · rename_i v h1
    have hv : VRel φ v (a.eval x) := evE_sound he hg h1
    refine spec_v fun u hu => ?_
    refine ⟨a.eval x, ?_, ?_⟩
    · unfold Gives execOp
      simp only
      generalize a.eval x = y at hv
      cases hv <;> simp only [nck, reduceCtorEq] at hu
      · rfl
      · rename_i fn _ _ _ _ _ _
        cases fn <;> simp only [nck, reduceCtorEq] at hu
        rfl
    · have : u = v := by
        unfold nck at hu
        split at hu <;> simp_all
      rw [this]; exact hv
  · rename_i t j h1
    obtain ⟨c, g1, g2⟩ := evE_sound he hg h1
    exact ⟨c, g1, by unfold Gives execOp; simp only [g2]; rfl⟩
  · exact trivial

theorem op_binOp (he : EnvRel φ ψ fr a) (b : BinOp) (t : TypeId) (x y : Operand) (yt : TypeId) : OpSpec P φ ψ fr s ⟨dst, .binOp b t x y yt, ty, pos, after, guard⟩ a w (opR std P C an fr s og ⟨dst, .binOp b t x y yt, ty, pos, after, guard⟩) := by
  have hrun : ∀ {r : Value}, (eqGuard b t x y (a.eval x) (a.eval y)).run P w = .ok () w → (binOp b t (a.eval x) (a.eval y)).run P w = .ok r w → Gives P ⟨dst, .binOp b t x y yt, ty, pos, after, guard⟩ a w r := by
    intro r h1 h2
    exact run_v (m := do eqGuard b t x y (a.eval x) (a.eval y); binOp b t (a.eval x) (a.eval y)) (by simp only [Sem.run_bind, h1, Result.andThen_ok, h2])
  simp only [opR]
  split
  · rename_i u v h1 h2
    have e1 := evV_sound he h1
    have e2 := evV_sound he h2
    split
    · split
      · rename_i ks agg hk
        refine spec_v fun r hr => ?_
        obtain ⟨b, rfl, h3, h4⟩ := eqb_sound w hk e1 e2 hr x y
        exact ⟨_, hrun (by simpa using h3) (by simpa using h4), .bool b⟩
      · split
        · rename_i hc
          refine spec_v fun r hr => ?_
          obtain ⟨b, rfl, h3, h4⟩ := eqI_sound w hc e1 e2 hr
          exact ⟨_, hrun (by simpa using h3) (by simpa using h4), .bool b⟩
        · exact trivial
    · split
      · rename_i ks agg hk
        refine spec_v fun r hr => ?_
        obtain ⟨b, rfl, h3, h4⟩ := eqb_sound w hk e1 e2 hr x y
        exact ⟨_, hrun (by simpa using h3) (by simpa using h4), .bool b⟩
      · split
        · rename_i hc
          refine spec_v fun r hr => ?_
          obtain ⟨b, rfl, h3, h4⟩ := eqI_sound w hc e1 e2 hr
          exact ⟨_, hrun (by simpa using h3) (by simpa using h4), .bool b⟩
        · exact trivial
    · rename_i n1 n2
      refine spec_plain fun r hr => ?_
      obtain ⟨h3, h4, h5⟩ := bin_sound w (t := t) n1 n2 e1 e2 hr x y
      exact ⟨h3, hrun h4 h5⟩
  · exact trivial

theorem op_unOp (he : EnvRel φ ψ fr a) (b : UnOp) (t : TypeId) (x : Operand) : OpSpec P φ ψ fr s ⟨dst, .unOp b t x, ty, pos, after, guard⟩ a w (opR std P C an fr s og ⟨dst, .unOp b t x, ty, pos, after, guard⟩) := by
  simp only [opR]
  split
  · rename_i v h1
    refine spec_plain fun r hr => ?_
    obtain ⟨h3, h4⟩ := un_sound (P := P) w (evV_sound he h1) hr
    exact ⟨h3, run_v h4⟩
  · exact trivial

theorem op_convert (he : EnvRel φ ψ fr a) (src dt : TypeId) (x : Operand) (hr : ∀ e, P.underlying src = some (.slice e) → Rel φ s w) :
    OpSpec P φ ψ fr s ⟨dst, .convert src dt x, ty, pos, after, guard⟩ a w (opR std P C an fr s og ⟨dst, .convert src dt x, ty, pos, after, guard⟩) := by
  simp only [opR]
  split
  · rename_i k k' v h1 h2 h3
    refine spec_plain fun r hr => ?_
    obtain ⟨h4, h5⟩ := cvi_sound (w := w) h1 h2 (evV_sound he h3) hr
    exact ⟨h4, run_v h5⟩
  · rename_i v h1 h2 h3
    refine spec_plain fun r hr => ?_
    obtain ⟨h4, h5⟩ := cvs_sound (w := w) h1 h2 (evV_sound he h3) hr
    exact ⟨h4, run_v h5⟩
  · rename_i e v h1 h2 h3
    split
    · rename_i h4
      refine spec_plain fun r hx => ?_
      obtain ⟨h5, h6⟩ := b2s_sound w h1 h4 h2 (hr e h1) (evV_sound he h3) hx
      exact ⟨h5, run_v h6⟩
    · exact trivial
  · rename_i e2 e v h1 h2 h3
    split
    · rename_i hsd
      split
      · rename_i h4
        intro r s' hx
        obtain ⟨w', g1, g2, g3⟩ := cvl_sound (hr e2 h1) h1 h2 h4 hsd (evV_sound he h3) hx
        exact does_value (run_v g1) ⟨φ, g3, g2⟩
      · exact trivial
    · exact trivial
  · exact trivial

theorem op_iface (he : EnvRel φ ψ fr a) (t : TypeId) (x : Operand) : OpSpec P φ ψ fr s ⟨dst, .makeInterface t x, ty, pos, after, guard⟩ a w (opR std P C an fr s og ⟨dst, .makeInterface t x, ty, pos, after, guard⟩) := by
  simp only [opR]
  split
  · exact trivial
  · rename_i d v hn h1 h2
    exact ⟨_, run_v (iface_run w h1 fun m hm => hn m hm), .iface t (evV_sound he h2)⟩
  · exact trivial

theorem map_lists (f : Operand → Value) (l : Array Operand) : l.map f = ⟨l.toList.map f⟩ := by
  apply toArray_of_toList; simp

theorem op_func (he : EnvRel φ ψ fr a) (fn : Fn) (f c : Array Operand) : OpSpec P φ ψ fr s ⟨dst, .makeFunc fn f c, ty, pos, after, guard⟩ a w (opR std P C an fr s og ⟨dst, .makeFunc fn f c, ty, pos, after, guard⟩) := by
  simp only [opR]
  split
  · rename_i g f' c' h1 h2
    refine ⟨.func (.func g) ⟨f.toList.map a.eval⟩ ⟨c.toList.map a.eval⟩, ?_, .func _ (evVs_sound he h1) (evVs_sound he h2)⟩
    rw [← map_lists, ← map_lists]
    exact run_v (m := Instr.makeFunc (.func g) (f.map a.eval) (c.map a.eval)) rfl
  · exact trivial

theorem pairs_map {g : Nat × Operand → Nat × Value} (f : Operand → Value) (hg : ∀ q, g q = (q.1, f q.2)) (l : Array (Nat × Operand)) : l.map g = (l.toList.map fun q => (q.1, f q.2)).toArray := by
  apply toArray_of_toList
  rw [Array.toList_map, funext hg]

theorem op_build (he : EnvRel φ ψ fr a) (t : TypeId) (ps : Array (Nat × Operand)) : OpSpec P φ ψ fr s ⟨dst, .build t ps, ty, pos, after, guard⟩ a w (opR std P C an fr s og ⟨dst, .build t ps, ty, pos, after, guard⟩) := by
  simp only [opR]
  split
  · rename_i fs z qs h1 h2 h3
    obtain ⟨g1, g2⟩ := evPs_sound he h3
    split
    · rename_i hp
      split
      · rename_i mf hm
        split
        · rename_i hc
          simp only [Bool.and_eq_true] at hc
          refine spec_v fun r hr => ?_
          obtain ⟨r', h4, h5⟩ := build_struct w h1 h2 hp hc.1 hc.2 hm g1 g2 hr
          refine ⟨r', run_v (m := Instr.build t (ps.map _)) ?_, h5⟩
          rw [pairs_map a.eval fun _ => rfl]; exact h4
        · exact trivial
      · exact trivial
    · exact trivial
  · rename_i m e z qs h1 h2 h3
    obtain ⟨g1, g2⟩ := evPs_sound he h3
    split
    · rename_i hc
      simp only [Bool.and_eq_true] at hc
      split
      · rename_i n hn
        refine spec_v fun r hr => ?_
        obtain ⟨r', h4, h5⟩ := build_array w h1 h2 hc.1 hc.2 hn g1 g2 hr
        refine ⟨r', run_v (m := Instr.build t (ps.map _)) ?_, h5⟩
        rw [pairs_map a.eval fun _ => rfl]; exact h4
      · exact trivial
    · exact trivial
  · exact trivial

theorem op_buildSlice (he : EnvRel φ ψ fr a) (hr : Rel φ s w) (t : TypeId) (len : Nat) (ps : Array (Nat × Operand)) :
    OpSpec P φ ψ fr s ⟨dst, .buildSlice t len ps, ty, pos, after, guard⟩ a w (opR std P C an fr s og ⟨dst, .buildSlice t len ps, ty, pos, after, guard⟩) := by
  simp only [opR]
  split
  · rename_i e qs h1 h3
    obtain ⟨g1, g2⟩ := evPs_sound he h3
    split
    · rename_i z n h4 h5
      split
      · rename_i hc
        simp only [Bool.and_eq_true, decide_eq_true_eq] at hc
        obtain ⟨⟨⟨⟨c1, c2⟩, c3⟩, c4⟩, c5⟩ := hc
        intro r s' hx
        obtain ⟨φ', r', w', q1, q2, q3⟩ := buildSlice_sound w hr h1 h4 h5 c1 c2 c3 c4 c5 g1 g2 hx
        refine does_value (u := r') (w' := w') (run_v (m := Instr.buildSlice t len (ps.map _)) ?_) ⟨φ', q3, q2⟩
        rw [pairs_map a.eval fun _ => rfl]; exact q1
      · exact trivial
    · exact trivial
  · exact trivial

theorem op_makeSlice (he : EnvRel φ ψ fr a) (hr : Rel φ s w) (t : TypeId) (l c : Operand) :
    OpSpec P φ ψ fr s ⟨dst, .makeSlice t l c, ty, pos, after, guard⟩ a w (opR std P C an fr s og ⟨dst, .makeSlice t l c, ty, pos, after, guard⟩) := by
  simp only [opR]
  split
  · rename_i e l' c' h1 h2 h3
    split
    · rename_i z n b h4 h5 h6
      split
      · rename_i hc
        simp only [Bool.and_eq_true, decide_eq_true_eq] at hc
        obtain ⟨⟨⟨c1, c2⟩, c3⟩, c4⟩ := hc
        have hi : ∃ inf, P.info? e = some inf ∧ inf.zero = some z ∧ inf.size = n ∧ inf.bytes = b := by
          unfold zeroT at h4; unfold sizeT at h5; unfold bytesT at h6
          cases hinf : P.info? e with
          | none => simp [hinf] at h4
          | some inf => simp [hinf] at h4 h5 h6; exact ⟨inf, rfl, h4, h5, h6⟩
        obtain ⟨inf, i1, i2, i3, rfl⟩ := hi
        intro r s' hx
        obtain ⟨φ', r', w', q1, q2, q3⟩ := mks_sound w hr h1 i1 i2 i3 c1 c2 c3 c4 (evV_sound he h2) (evV_sound he h3) hx
        exact does_value (u := r') (w' := w') (run_v q1) ⟨φ', q3, q2⟩
      · exact trivial
    · exact trivial
  · exact trivial

theorem op_slice (he : EnvRel φ ψ fr a) (hr : Rel φ s w) (t : TypeId) (x : Operand) (lo hi mx : Option Operand) :
    OpSpec P φ ψ fr s ⟨dst, .slice t x lo hi mx, ty, pos, after, guard⟩ a w (opR std P C an fr s og ⟨dst, .slice t x lo hi mx, ty, pos, after, guard⟩) := by
  simp only [opR]
  split
  · rename_i v lo' hi' h1 h2 h3 h4 h5
    refine spec_plain fun r hx => ?_
    obtain ⟨q1, q2⟩ := slS_sound w h1 (evV_sound he h2) (evO_sound he h3) (evO_sound he h4) hx
    have hmx : mx.map a.eval = none := by
      have := evO_sound he h5
      generalize mx.map a.eval = y at this
      cases this
      rfl
    exact ⟨q1, run_v (m := Instr.sliceAt t (a.eval x) (lo.map a.eval) (hi.map a.eval) (mx.map a.eval)) (by rw [hmx]; exact q2)⟩
  · rename_i e v lo' hi' mx' h1 h2 h3 h4 h5
    split
    · rename_i n h6
      split
      · exact trivial
      · rename_i hm
        refine spec_v fun r hx => ?_
        obtain ⟨r', q1, q2⟩ := slc_sound w hr h1 h6 (evV_sound he h2) (evO_sound he h3) (evO_sound he h4) (evO_sound he h5) (fun h7 h8 => hm (by
          subst h8
          cases mx' with
          | none => exact absurd rfl h7
          | some _ => rfl)) hx
        exact ⟨r', run_v q1, q2⟩
    · exact trivial
  · exact trivial

theorem op_fieldAddr (he : EnvRel φ ψ fr a) (hg : GOk a og) (t : TypeId) (x : Operand) (j : Nat) :
    OpSpec P φ ψ fr s ⟨dst, .fieldAddr t x j, ty, pos, after, guard⟩ a w (opR std P C an fr s og ⟨dst, .fieldAddr t x j, ty, pos, after, guard⟩) := by
  simp only [opR]
  split
  · rename_i fs h1
    split
    · rename_i f h2
      split
      · rename_i n h3
        split
        · exact trivial
        · rename_i hn
          split
          · rename_i v h4
            refine spec_v fun r hx => ?_
            obtain ⟨r', q1, q2⟩ := fld_sound w h1 h2 h3 hn (evE_sound he hg h4) hx
            exact ⟨r', run_v q1, q2⟩
          · rename_i t' k h4
            obtain ⟨c, g1, g2⟩ := evE_sound he hg h4
            exact ⟨c, g1, run_v (by rw [g2]; exact fld_lp w h1 h2 h3 hn)⟩
          · exact trivial
      · exact trivial
    · exact trivial
  · exact trivial

theorem op_field (he : EnvRel φ ψ fr a) (t : TypeId) (x : Operand) (j : Nat) :
    OpSpec P φ ψ fr s ⟨dst, .field t x j, ty, pos, after, guard⟩ a w (opR std P C an fr s og ⟨dst, .field t x j, ty, pos, after, guard⟩) := by
  simp only [opR]
  split
  · rename_i fs h1
    split
    · rename_i f v h2 h3
      split
      · rename_i agg n h4 h5
        refine spec_v fun r hx => ?_
        obtain ⟨r', q1, q2⟩ := prt_sound w h1 h2 h5 h4 (evV_sound he h3) hx
        exact ⟨r', run_v q1, q2⟩
      · exact trivial
    · exact trivial
  · exact trivial

theorem op_indexAddr (he : EnvRel φ ψ fr a) (hg : GOk a og) (t : TypeId) (x i : Operand) (hr : ∀ e, P.underlying t = some (.slice e) → Rel φ s w) :
    OpSpec P φ ψ fr s ⟨dst, .indexAddr t x i, ty, pos, after, guard⟩ a w (opR std P C an fr s og ⟨dst, .indexAddr t x i, ty, pos, after, guard⟩) := by
  simp only [opR]
  split
  · rename_i e v i' h1 h2 h3
    split
    · rename_i n h4
      refine spec_v fun r hx => ?_
      have h5 : VRel φ v (a.eval x) := evE_sound he (og := none) (fun _ _ e => by simp at e) h2
      obtain ⟨r', q1, q2⟩ := idx_sound w (hr e h1) h1 h4 h5 (evV_sound he h3) hx
      exact ⟨r', run_v q1, q2⟩
    · exact trivial
  · rename_i n e i' h1 h3
    split
    · rename_i sz v h4 h5
      refine spec_v fun r hx => ?_
      have h6 : VRel φ v (a.eval x) := evE_sound he hg h5
      obtain ⟨r', q1, q2⟩ := idxA_sound w h1 h4 h6 (evV_sound he h3) hx
      exact ⟨r', run_v q1, q2⟩
    · rename_i sz t' j h4 h5
      split
      · rename_i kk k
        split
        · rename_i hk
          obtain ⟨c, g1, g2⟩ := evE_sound he hg h5
          have h7 := evV_sound he h3
          refine ⟨c, g1, run_v ?_⟩
          rw [g2]
          generalize a.eval i = u at h7
          cases h7
          rw [idxA_run w h1 h4 hk]
          simp [Addr.add]
        · exact trivial
      · exact trivial
    · exact trivial
  · exact trivial

theorem op_index (he : EnvRel φ ψ fr a) (t : TypeId) (x i : Operand) :
    OpSpec P φ ψ fr s ⟨dst, .index t x i, ty, pos, after, guard⟩ a w (opR std P C an fr s og ⟨dst, .index t x i, ty, pos, after, guard⟩) := by
  simp only [opR]
  split
  · rename_i v i' h1 h2 h3
    refine spec_plain fun r hx => ?_
    obtain ⟨q1, q2⟩ := idxS_sound w h1 (evV_sound he h2) (evV_sound he h3) hx
    exact ⟨q1, run_v q2⟩
  · exact trivial

theorem op_lookup (he : EnvRel φ ψ fr a) (hr : Rel φ s w) (t : TypeId) (x k : Operand) (ok : Bool) :
    OpSpec P φ ψ fr s ⟨dst, .lookup t x k ok, ty, pos, after, guard⟩ a w (opR std P C an fr s og ⟨dst, .lookup t x k ok, ty, pos, after, guard⟩) := by
  simp only [opR]
  split
  · rename_i kt e m k' h1 h2 h3
    split
    · rename_i z ks agg h4 h5 h6
      split
      · rename_i hc
        simp only [Bool.and_eq_true] at hc
        refine spec_v fun r hx => ?_
        obtain ⟨r', q1, q2⟩ := lkp_sound w hr h1 h5 h6 h4 hc.1 (evV_sound he h2) (evV_sound he h3) hx
        exact ⟨r', run_v q1, q2⟩
      · exact trivial
    · exact trivial
  · exact trivial

theorem op_upm (he : EnvRel φ ψ fr a) (hr : Rel φ s w) (t : TypeId) (x k y : Operand) (op : Op) (hop : op = .mapUpdate t x k y ∨ op = .insert t x k y) :
    OpSpec P φ ψ fr s ⟨dst, op, ty, pos, after, guard⟩ a w (opR std P C an fr s og ⟨dst, op, ty, pos, after, guard⟩) := by
  have hrun : ∀ {w' : World}, (Instr.mapUpdate t (a.eval x) (a.eval k) (a.eval y)).run P w = .ok () w' → (execOp a.eval ⟨dst, op, ty, pos, after, guard⟩).run P w = .ok .skip w' := by
    intro w' h
    rcases hop with rfl | rfl <;> exact run_u h
  have e : opR std P C an fr s og ⟨dst, op, ty, pos, after, guard⟩ = match P.underlying t, evV fr x, evV fr k, evV fr y with
    | some (.map kt _), some m, some k, some v => (match kindsT P 9 kt, aggT P kt with
        | some ks, some agg => if keyKinds ks then .u (upm s ks agg m k v) else .bad
        | _, _ => .bad)
    | _, _, _, _ => .bad := by rcases hop with rfl | rfl <;> rfl
  rw [e]
  split
  · rename_i kt e m k' v h1 h2 h3 h4
    split
    · rename_i ks agg h5 h6
      split
      · rename_i hc
        intro s' hx
        obtain ⟨w', q1, q2⟩ := upm_sound w hr h1 h5 h6 hc (evV_sound he h2) (evV_sound he h3) (evV_sound he h4) hx
        exact does_skip (hrun q1) ⟨rfl, q2⟩
      · exact trivial
    · exact trivial
  · exact trivial

theorem op_makeMap (hr : Rel φ s w) (t : TypeId) (o : Option Operand) :
    OpSpec P φ ψ fr s ⟨dst, .makeMap t o, ty, pos, after, guard⟩ a w (opR std P C an fr s og ⟨dst, .makeMap t o, ty, pos, after, guard⟩) := by
  cases o with
  | some _ => exact trivial
  | none =>
    intro r s' hx
    obtain ⟨φ', q1, q2, q3⟩ := mkm_sound (P := P) w t hr hx
    exact does_value (run_v q1) ⟨φ', q3, q2⟩

theorem tas_sound {xt t : TypeId} {ok : Bool} {z x x' r : Value} (hz : zeroT P t = some z) (hp : plainV z = true) (hx : VRel φ x x') (h : tas P t ok z x = some r) : ∃ r', (Instr.typeAssert x' xt t ok).run P w = .ok r' w ∧ VRel φ r r' := by
  have hzr : VRel φ (.tuple ⟨[z, .bool false]⟩) (.tuple ⟨[z, .bool false]⟩) := .tuple (.cons (VRel.of_plain φ hp) (.cons (.bool _) .nil))
  unfold tas at h
  split at h
  · rename_i hu
    cases hx
    split at h
    · rename_i hok
      simp only [Option.some.injEq] at h; subst h
      exact ⟨_, by simp [Instr.typeAssert, run_underlying hu, hok, run_zeroValue w hz], hzr⟩
    · simp at h
  · rename_i want a v hu
    cases hx with
    | iface _ hv =>
      split at h
      · rename_i inf hi
        have hti : (typeInfo a).run P w = .ok inf w := by simp [typeInfo, hi]
        split at h
        · rename_i hm
          simp only [Option.some.injEq] at h; subst h
          refine ⟨_, by simp [Instr.typeAssert, run_underlying hu, hti, hm]; rfl, ?_⟩
          cases ok
          · exact .iface _ hv
          · exact .tuple (.cons (.iface _ hv) (.cons (.bool _) .nil))
        · rename_i m hm
          split at h
          · rename_i hok
            simp only [Option.some.injEq] at h; subst h
            exact ⟨_, by simp [Instr.typeAssert, run_underlying hu, hti, hm, hok, run_zeroValue w hz], hzr⟩
          · simp at h
      · simp at h
  · rename_i d hne hu
    cases hx
    split at h
    · rename_i hok
      simp only [Option.some.injEq] at h; subst h
      refine ⟨_, ?_, hzr⟩
      cases d <;> first
        | exact absurd rfl (hne _)
        | simp [Instr.typeAssert, run_underlying hu, hok, run_zeroValue w hz]
    · simp at h
  · rename_i d a v hne hu
    cases hx with
    | iface _ hv =>
      rename_i v'
      split at h
      · rename_i hat
        simp only [Option.some.injEq] at h; subst h
        refine ⟨if ok then .tuple ⟨[v', .bool true]⟩ else v', ?_, ?_⟩
        rotate_left
        · cases ok
          · exact hv
          · exact .tuple (.cons hv (.cons (.bool _) .nil))
        · cases d <;> first
            | exact absurd rfl (hne _)
            | simp [Instr.typeAssert, run_underlying hu, hat]
      · rename_i hat
        split at h
        · rename_i hok
          simp only [Option.some.injEq] at h; subst h
          refine ⟨_, ?_, hzr⟩
          cases d <;> first
            | exact absurd rfl (hne _)
            | simp [Instr.typeAssert, run_underlying hu, hok, hat, run_zeroValue w hz]
        · simp at h
  · simp at h

theorem op_typeAssert (he : EnvRel φ ψ fr a) (x : Operand) (xt t : TypeId) (ok : Bool) : OpSpec P φ ψ fr s ⟨dst, .typeAssert x xt t ok, ty, pos, after, guard⟩ a w (opR std P C an fr s og ⟨dst, .typeAssert x xt t ok, ty, pos, after, guard⟩) := by
  simp only [opR]
  split
  · rename_i v z h1 h2
    split
    · rename_i hp
      refine spec_v fun r hr => ?_
      obtain ⟨r', q1, q2⟩ := tas_sound (w := w) h2 hp (evV_sound he h1) hr
      exact ⟨r', run_v q1, q2⟩
    · exact trivial
  · exact trivial

theorem op_extract (he : EnvRel φ ψ fr a) (x : Operand) (i : Nat) :
    OpSpec P φ ψ fr s ⟨dst, .extract x i, ty, pos, after, guard⟩ a w (opR std P C an fr s og ⟨dst, .extract x i, ty, pos, after, guard⟩) := by
  simp only [opR]
  split
  · rename_i v h1
    refine spec_v fun r hx => ?_
    obtain ⟨r', q1, q2⟩ := xtr_sound (P := P) w (evV_sound he h1) hx
    exact ⟨r', run_v q1, q2⟩
  · exact trivial

end
end Go.Sim
