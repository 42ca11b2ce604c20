/-
  New memory that is made ahead of its place in an order; readings read anew.
-/
import Derived.Test.YtkkgegocliobpaaSimR
set_option linter.unusedSimpArgs false
set_option linter.unusedVariables false
namespace Go.Sim
open Go.RowKit (Below)

/-! ### Values compared -/

mutual
theorem sameV_eq : ∀ {a b : Value}, sameV a b = true → a = b
  | .bool a, b, h => by cases b <;> simp_all [sameV]
  | .int k a, b, h => by cases b <;> simp_all [sameV]
  | .string a, b, h => by cases b <;> simp_all [sameV]
  | .pointer none, b, h => by
    cases b with
    | pointer x => cases x <;> simp_all [sameV]
    | _ => simp_all [sameV]
  | .pointer (some ⟨x, i, j⟩), b, h => by
    cases b with
    | pointer y =>
      cases y with
      | none => simp_all [sameV]
      | some y => obtain ⟨_, _, _⟩ := y; simp_all [sameV]
    | _ => simp_all [sameV]
  | .slice none n c, b, h => by
    cases b with
    | slice x _ _ => cases x <;> simp_all [sameV]
    | _ => simp_all [sameV]
  | .slice (some ⟨x, i, j⟩) n c, b, h => by
    cases b with
    | slice y _ _ =>
      cases y with
      | none => simp_all [sameV]
      | some y => obtain ⟨_, _, _⟩ := y; simp_all [sameV]
    | _ => simp_all [sameV]
  | .map a, b, h => by cases b <;> simp_all [sameV]
  | .nilIface, b, h => by cases b <;> simp_all [sameV]
  | .agg ⟨a⟩, b, h => by
    cases b with
    | agg b =>
      obtain ⟨b⟩ := b
      simp only [sameV] at h
      rw [sameVs_eq h]
    | _ => simp_all [sameV]
  | .tuple ⟨a⟩, b, h => by
    cases b with
    | tuple b =>
      obtain ⟨b⟩ := b
      simp only [sameV] at h
      rw [sameVs_eq h]
    | _ => simp_all [sameV]
  | .float _ _, b, h => by simp [sameV] at h
  | .complex _ _ _, b, h => by simp [sameV] at h
  | .chan _, b, h => by simp [sameV] at h
  | .nilFunc, b, h => by simp [sameV] at h
  | .func _ _ _, b, h => by simp [sameV] at h
  | .iface _ _, b, h => by simp [sameV] at h
theorem sameVs_eq : ∀ {a b : List Value}, sameVs a b = true → a = b
  | [], [], _ => rfl
  | [], _ :: _, h => by simp [sameVs] at h
  | _ :: _, [], h => by simp [sameVs] at h
  | a :: r, b :: q, h => by
    simp only [sameVs, Bool.and_eq_true] at h
    rw [sameV_eq h.1, sameVs_eq h.2]
end

section
variable {P : Program} {C : Ctx} {an : An} {φ0 φ : Phi} {ψ : Nat → Option Nat} {s0 s s' : St} {w0 w : World} {fr fr' : Fr} {a g : Act} {ops : Array Oper} {R : Type} {K : Fr → St → Option R} {r : R} {X : Option R}

theorem cnd_some {v : Bool} {x : Option R} (h : cnd (.bool v) x none = some r) : v = true ∧ x = some r := by
  cases v with
  | true => exact ⟨rfl, h⟩
  | false => simp [cnd] at h

/-- What was read anew is what stands in the frame. -/
theorem rechk_sound : ∀ {rs : List Nat}, rechk std P C an ops rs fr s X = some r → X = some r ∧
    ∀ j ∈ rs, ∃ o d v, ops[j]? = some o ∧ o.dst = some d ∧ PS P C an ops fr s o (.e (.val v)) ∧ lookE fr.e d = some (.val v) ∧ lookG fr.g d = none
  | [], h => ⟨h, fun j hj => by simp at hj⟩
  | j :: rs, h => by
    unfold rechk at h
    split at h
    · rename_i d op ty pos after g ho
      split at h
      · rename_i v hl hg
        split at h
        · split at h
          · rename_i m hm
            simp only [std, Option.bind_eq_some_iff] at h
            obtain ⟨v', h1, h2⟩ := h
            obtain ⟨h3, h4⟩ := cnd_some h2
            have := sameV_eq h3
            subst this
            obtain ⟨h5, h6⟩ := rechk_sound h4
            refine ⟨h5, fun k hk => ?_⟩
            rcases List.mem_cons.1 hk with rfl | hk
            · exact ⟨_, d, v', ho, rfl, .inl ⟨rfl, by rw [hm]; exact ⟨v', h1, rfl⟩⟩, hl, hg⟩
            · exact h6 k hk
          · simp at h
        · rename_i q want
          split at h
          · simp at h
          · rename_i gt hgt
            split at h
            · rename_i x hx
              split at h
              · rename_i m hm
                simp only [std, Option.bind_eq_some_iff] at h
                obtain ⟨v', h1, h2⟩ := h
                obtain ⟨h3, h4⟩ := cnd_some h2
                have := sameV_eq h3
                subst this
                obtain ⟨h5, h6⟩ := rechk_sound h4
                refine ⟨h5, fun k hk => ?_⟩
                rcases List.mem_cons.1 hk with rfl | hk
                · refine ⟨_, d, v', ho, rfl, .inr ⟨q, want, gt, x, rfl, hgt, hx, ?_⟩, hl, hg⟩
                  unfold gd at h1
                  split at h1
                  · rename_i b
                    split at h1
                    · rename_i e; exact .inl ⟨by rw [e], by rw [hm]; exact ⟨v', h1, rfl⟩⟩
                    · rename_i e; simp only [Option.some.injEq] at h1; exact .inr ⟨fun e2 => e (by simpa using e2), by rw [h1]⟩
                  · rename_i hnb
                    simp only [Option.some.injEq] at h1
                    exact .inr ⟨fun e2 => hnb _ e2, by rw [h1]⟩
                · exact h6 k hk
              · simp at h
            · simp at h
      · simp at h
    · simp at h

/-! ### New memory ahead -/

/-- What new memory an operation makes, wherever it is made. -/
structure SAft (P : Program) (C : Ctx) (an : An) (φ : Phi) (fr : Fr) (a : Act) (o : Oper) (kb : Blk) (va mk : Nat → Value) (blk : Obj) : Prop where
  abs : ∀ s, ∃ m, opR std P C an fr s none o = .s m ∧ m = some (va s.n, s.new kb)
  run : ∀ w, (execOp a.eval o).run P w = .ok (.value (mk w.heap.size)) (w.alloc blk)
  rel : ∀ φ' w c, φ.le φ' → w.heap[c]? = some blk → ∃ l : Loc, l.blk = c ∧ BRel φ' l kb w ∧ ∀ φ'' n, φ'' n = some l → VRel φ'' (va n) (mk c)
  below : ∀ w, Below w.heap.size w (w.alloc blk)
  froz : ∀ w, Froz w (w.alloc blk)
  nb : ∀ c b, mk c ≠ .bool b

theorem SAft.mono {φ' : Phi} {o : Oper} {kb : Blk} {va mk : Nat → Value} {blk : Obj} (h : SAft P C an φ fr a o kb va mk blk) (hle : φ.le φ') : SAft P C an φ' fr a o kb va mk blk :=
  ⟨h.abs, h.run, fun φ2 w c h1 h2 => h.rel φ2 w c (hle.trans h1) h2, h.below, h.froz, h.nb⟩

theorem row_at {φ : Phi} {cs cs' : List Value} {w : World} {c : Nat} {t : TypeId} (hv : VsRel φ cs cs') (h1 : oneCs cs = true) (hw : w.heap[c]? = some (.cells ⟨cs'⟩ t)) :
    ∃ l : Loc, l.blk = c ∧ BRel φ l (.row cs.length [cs] false) w ∧ ∀ φ'' n, φ'' n = some l → VRel φ'' (.pointer (some ⟨n, 0, some 0⟩)) (.pointer (some ⟨c, 0, none⟩)) := by
  refine ⟨⟨c, 0, cs.length, 1⟩, rfl, ⟨rfl, by simp, ⟨cs'⟩, t, (0, 0), hw, by simp [hv.length], fun i q hq => ?_, fun _ => rfl⟩, fun φ'' n hn => ?_⟩
  · cases i with
    | zero =>
      simp at hq
      subst hq
      refine ⟨rfl, h1, fun j v hjv => ?_⟩
      obtain ⟨u, hu, hr⟩ := hv.get hjv
      exact ⟨u, by simpa using hu, hr⟩
    | succ i => simp at hq
  · have := VRel.ptr (i := 0) (j := 0) hn
    simpa using this

theorem rows_at {φ : Phi} {rows : List (List Value)} {cs' : List Value} {sz len : Nat} {w : World} {c : Nat} {t : TypeId} (hr : ∀ q ∈ rows, q.length = sz ∧ oneCs q = true) (hv : VsRel φ rows.flatten cs') (hl : len ≤ rows.length)
    (hw : w.heap[c]? = some (.cells ⟨cs'⟩ t)) :
    ∃ l : Loc, l.blk = c ∧ BRel φ l (.row sz rows false) w ∧ ∀ φ'' n, φ'' n = some l → VRel φ'' (.slice (some ⟨n, 0, some 0⟩) len (2 * rows.length)) (.slice (some ⟨c, 0, none⟩) len rows.length) := by
  have hcl : cs'.length = rows.length * sz := by rw [← hv.length, flat_len fun q hq => (hr q hq).1]
  refine ⟨⟨c, 0, sz, rows.length⟩, rfl, ⟨rfl, by simp, ⟨cs'⟩, t, (0, 0), hw, by simp [hcl], fun i q hq => ?_, fun _ => rfl⟩, fun φ'' n hn => ?_⟩
  · have hm := List.mem_of_getElem? hq
    refine ⟨(hr q hm).1, (hr q hm).2, fun j v hjv => ?_⟩
    have := flat_get (fun q hq => (hr q hq).1) hq hjv
    obtain ⟨u, hu, hr⟩ := hv.get this
    exact ⟨u, by simpa using hu, hr⟩
  · exact VRel.slice (i := 0) hn hl (by simp) (fun _ => by simp) (.inr rfl)

theorem buildSlice_run {t e : TypeId} {z : Value} {n len : Nat} {ps ps' : List (Nat × Value)} {rows : List (List Value)} (ht : P.underlying t = some (.slice e)) (hz : zeroT P e = some z) (hn : sizeT P e = some n)
    (hpz : plainV z = true) (hone : oneCs (cellsL z) = true) (hlen : len * n ≤ 16777216) (hn0 : 0 < n) (hzl : (cellsL z).length = n)
    (hps : ps.length = ps'.length) (hrel : ∀ (k i : Nat) (v : Value), ps[k]? = some (i, v) → ∃ v', ps'[k]? = some (i, v') ∧ VRel φ v v')
    (hbl : bls n (List.replicate len (cellsL z)) ps = some rows) :
    ∃ cs', (∀ w : World, (Instr.buildSlice t len ps'.toArray).run P w = .ok (.slice (some ⟨w.heap.size, 0, none⟩) len rows.length) (w.alloc (.cells ⟨cs'⟩ e))) ∧ VsRel φ rows.flatten cs' ∧ (∀ q ∈ rows, q.length = n ∧ oneCs q = true) ∧ len ≤ rows.length := by
  have hrep : ∀ q ∈ List.replicate len (cellsL z), q.length = n ∧ oneCs q = true := fun q hq => by rw [(List.mem_replicate.1 hq).2]; exact ⟨hzl, hone⟩
  have hzf : VsRel φ (List.replicate len (cellsL z)).flatten (List.replicate len (cellsL z)).flatten := by
    generalize len = k
    induction k with
    | zero => exact .nil
    | succ k ih => rw [List.replicate_succ, List.flatten_cons]; exact (VsRel.zero hpz).append ih
  obtain ⟨cs', g1, g2, g3, g4⟩ := bls_sound ps ps' (List.replicate len (cellsL z)) rows _ hps hrel hrep hzf hbl
  refine ⟨cs', fun w => ?_, g2, g3, by rw [g4]; simp⟩
  have hbig : ¬ (len * n > 2 ^ 24) := by simpa using hlen
  have hcells : (Array.range (len * n)).map ((if len * n = 0 then #[] else z.cells)[· % (if len * n = 0 then #[] else z.cells : Array Value).size]!) = ⟨(List.replicate len (cellsL z)).flatten⟩ := by
    apply Array.ext'
    by_cases h0 : len * n = 0
    · have : len = 0 := by
        rcases Nat.mul_eq_zero.1 h0 with h | h
        · exact h
        · omega
      subst this
      simp
    · simp only [if_neg h0]
      exact zeros_flat len hzl hn0
  by_cases h0 : len * n = 0
  · simp only [if_pos h0] at hcells
    simp only [Instr.buildSlice, Sem.run_bind, run_underlying ht, Result.andThen_ok, run_sizeOf w hn, if_neg hbig, Sem.run_ite, if_pos h0, Sem.run_pure, hcells, g1]
    simp [newRow, g4]
  · simp only [if_neg h0] at hcells
    simp only [Instr.buildSlice, Sem.run_bind, run_underlying ht, Result.andThen_ok, run_sizeOf w hn, if_neg hbig, Sem.run_ite, if_neg h0, Sem.run_pure, run_zeroValue w hz, hcells, g1]
    simp [newRow, g4]

theorem alv_new {v x : Value} (h : alv s v = some (x, s')) : ∃ cs, bx v = some cs ∧ ∀ s, alv s v = some (.pointer (some ⟨s.n, 0, some 0⟩), s.new (.row cs.length [cs] false)) := by
  unfold alv at h
  cases hb : bx v with
  | none => simp [hb] at h
  | some cs => exact ⟨cs, rfl, fun s => by simp [alv, hb, alc]⟩

theorem cells_below {cs : Array Value} {t : TypeId} (w : World) : Below w.heap.size w (w.alloc (.cells cs t)) := (Below.refl _ _).alloc (Nat.le_refl _) _

/-- New memory: made wherever it is made. -/
theorem sa_of {o : Oper} {m : Option (Value × St)} {q : Value × St} (hk : saKind o = true) (he : EnvRel φ ψ fr a) (ho : opR std P C an fr s none o = .s m) (hm : m = some q) : ∃ kb va mk blk, SAft P C an φ fr a o kb va mk blk := by
  obtain ⟨dst, op, ty, pos, after, guard⟩ := o
  unfold saKind at hk
  split at hk
  · rename_i t h1 h2 h3
    simp only at h1 h2 h3
    subst h1; subst h2; subst h3
    rename_i d
    simp only [opR] at ho ⊢
    split at ho
    · rename_i z hz
      split at ho
      · rename_i hp
        split at ho
        · simp at ho
        · rename_i hl
          simp only [OpR.s.injEq] at ho
          subst ho
          obtain ⟨cs, hb, hall⟩ := alv_new hm
          obtain ⟨g1, g2, _⟩ := bx_rel (VRel.of_plain φ hp) hb
          refine ⟨_, _, _, _, fun s => ⟨_, by simp only [opR, hz, if_pos hp, if_neg hl], hall s⟩, fun w => run_v (alloc_run w hz), fun φ' w c hle hw => row_at (g1.mono hle) g2 hw, fun w => cells_below w, fun w => fun a _ => Go.RowKit.frozen?_alloc_cells w _ _ a, fun c b => by simp⟩
      · simp at ho
    · simp at ho
  · rename_i t x h1 h2 h3
    simp only at h1 h2 h3
    subst h1; subst h2; subst h3
    rename_i d
    simp only [opR] at ho ⊢
    split at ho
    · rename_i v hv
      split at ho
      · simp at ho
      · rename_i hl
        simp only [OpR.s.injEq] at ho
        subst ho
        obtain ⟨cs, hb, hall⟩ := alv_new hm
        obtain ⟨g1, g2, _⟩ := bx_rel (evV_sound he hv) hb
        refine ⟨_, _, _, _, fun s => ⟨_, by simp only [opR, hv, if_neg hl], hall s⟩, fun w => run_v (box_run w t _), fun φ' w c hle hw => row_at (g1.mono hle) g2 hw, fun w => cells_below w, fun w => fun a _ => Go.RowKit.frozen?_alloc_cells w _ _ a, fun c b => by simp⟩
    · simp at ho
  · rename_i t len ps h1 h2 h3
    simp only at h1 h2 h3
    subst h1; subst h2; subst h3
    simp only [opR] at ho ⊢
    split at ho
    · rename_i e qs k1 k3
      obtain ⟨g1, g2⟩ := evPs_sound he k3
      split at ho
      · rename_i z n k4 k5
        split at ho
        · rename_i hc
          have hc' := hc
          simp only [Bool.and_eq_true, decide_eq_true_eq] at hc'
          obtain ⟨⟨⟨⟨c1, c2⟩, c3⟩, c4⟩, c5⟩ := hc'
          simp only [OpR.s.injEq] at ho
          subst ho
          simp only [std, Option.bind_eq_some_iff] at hm
          obtain ⟨rows, hrows, _⟩ := hm
          obtain ⟨cs', f1, f2, f3, f4⟩ := buildSlice_run k1 k4 k5 c1 c2 c3 c4 c5 g1 g2 hrows
          refine ⟨.row n rows false, fun m => .slice (some ⟨m, 0, some 0⟩) len (2 * rows.length), fun c => .slice (some ⟨c, 0, none⟩) len rows.length, .cells ⟨cs'⟩ e, fun s => ⟨std.bd (bls n (List.replicate len (cellsL z)) qs) fun rows => als s n len rows, by simp only [opR, k1, k3, k4, k5, if_pos hc], by simp only [std, hrows, Option.bind_some, als]⟩, fun w => ?_, fun φ' w c hle hw => rows_at f3 (f2.mono hle) f4 hw, fun w => cells_below w, fun w => fun a _ => Go.RowKit.frozen?_alloc_cells w _ _ a, fun c b => by simp⟩
          refine run_v (m := Instr.buildSlice t len (ps.map _)) ?_
          rw [pairs_map a.eval fun _ => rfl]
          exact f1 w
        · simp at ho
      · simp at ho
    · simp at ho
  · rename_i t h1 h2 h3
    simp only at h1 h2 h3
    subst h1; subst h2; subst h3
    refine ⟨.map [] false, fun n => .map (some n), fun n => .map (some n), .map #[] 0, fun s => ⟨_, rfl, rfl⟩, fun w => run_v (by simp [Instr.makeMap]), fun φ' w c hle hw => ⟨⟨c, 0, 0, 0⟩, rfl, ⟨#[], 0, hw, rfl, fun i k v hi => by simp at hi⟩, fun φ'' n hn => VRel.map hn⟩,
      fun w => (Below.refl _ _).alloc (Nat.le_refl _) _, fun w => fun a _ => Go.RowKit.frozen?_alloc_map w _ _ a, fun c b => by simp⟩
  · simp at hk

/-- One row more, of a block that stands already. -/
theorem Inv.account {p : Bool} {N : Nat} {kb : Blk} {l : Loc} (h : Inv p N φ0 s0 w0 φ ψ s fr a w) (hp : p ≠ true) (hB : BRel (φ.add s.n l) l kb w) (ha : Away φ ψ s fr l.blk) (hw : w0.heap.size ≤ l.blk) :
    Inv p N φ0 s0 w0 (φ.add s.n l) ψ (s.new kb) fr a w := by
  have hr := h.step.rel
  have hle := Phi.le_add hr l
  have hget : ∀ c x, (s.new kb).get c = some x → (c = s.n ∧ x = kb) ∨ (c ≠ s.n ∧ s.get c = some x) := by
    intro c x hx
    rw [St.get_new] at hx
    by_cases hc : c = s.n
    · rw [if_pos hc] at hx; simp at hx; exact .inl ⟨hc, hx.symm⟩
    · rw [if_neg hc] at hx; exact .inr ⟨hc, hx⟩
  have hphi : ∀ c x, s.get c = some x → ∀ l1, φ.add s.n l c = some l1 → φ c = some l1 := by
    intro c x hx l1 h1
    obtain ⟨l2, h2, h3⟩ := hr.blk c x hx
    have := hle c l2 h2
    rw [this] at h1
    simp at h1
    subst h1
    exact h2
  refine ⟨⟨⟨fun b l1 hb => ?_, fun c x hx => ?_, fun c d x y l1 l2 hx hy hne hro h1 h2 => ?_⟩, h.step.ext.trans hle, h.step.frm, fun b k l1 h1 h2 => ?_⟩, ⟨⟨fun t x hx => ⟨(h.frel.env t x hx).1, (h.frel.env t x hx).2.mono hle⟩, h.frel.grd⟩, fun t cs hl => ?_⟩,
    ⟨h.apart.new, fun t cs c b k l1 h1 h2 h3 h4 => ?_, h.apart.one⟩, h.defers, h.size, fun e => absurd e hp⟩
  · unfold Phi.add at hb
    by_cases hc : b = s.n
    · subst hc; simp
    · rw [if_neg hc] at hb
      have := hr.fresh b l1 hb
      simp; omega
  · rcases hget c x hx with ⟨rfl, rfl⟩ | ⟨hc, hx⟩
    · exact ⟨l, Phi.add_self _ _ _, hB⟩
    · obtain ⟨l1, h1, h2⟩ := hr.blk c x hx
      exact ⟨l1, hle _ _ h1, h2.of_same hle rfl⟩
  · rcases hget c x hx with ⟨rfl, rfl⟩ | ⟨hc, hx'⟩
    · rcases hget d y hy with ⟨rfl, rfl⟩ | ⟨hd, hy'⟩
      · exact absurd rfl hne
      · rw [Phi.add_self] at h1
        simp only [Option.some.injEq] at h1
        subst h1
        exact (ha.row d y l2 hy' (hphi d y hy' l2 h2)).symm
    · rcases hget d y hy with ⟨rfl, rfl⟩ | ⟨hd, hy'⟩
      · rw [Phi.add_self] at h2
        simp only [Option.some.injEq] at h2
        subst h2
        exact ha.row c x l1 hx' (hphi c x hx' l1 h1)
      · exact hr.inj c d x y l1 l2 hx' hy' hne hro (hphi c x hx' l1 h1) (hphi d y hy' l2 h2)
  · rcases hget b k h1 with ⟨rfl, rfl⟩ | ⟨hb, hx⟩
    · rw [Phi.add_self] at h2
      simp only [Option.some.injEq] at h2
      subst h2
      exact .inl hw
    · exact h.step.own b k l1 hx (hphi b k hx l1 h2)
  · obtain ⟨c, g1, g2⟩ := h.frel.loc t cs hl
    exact ⟨c, g1, g2.of_same hle rfl⟩
  · rcases hget b k h3 with ⟨rfl, rfl⟩ | ⟨hb, hx⟩
    · rw [Phi.add_self] at h4
      simp only [Option.some.injEq] at h4
      subst h4
      exact fun e => ha.loc t cs h1 (by rw [h2, e])
    · exact h.apart.row t cs c b k l1 h1 h2 hx (hphi b k hx l1 h4)
end
end Go.Sim
