/-
  A reading gives the same behind what leaves its sources alone.
-/
import Derived.Test.YtkkgegocliobpaaSimP
set_option linter.unusedSimpArgs false
set_option linter.unusedVariables false
namespace Go.Sim
open Go.RowKit (Below)

/-! ### The heap has grown -/

section
variable {s s' : St} (h : Ext s s')
include h

theorem ldc_ext {v x : Value} (e : ldc s v = some x) : ldc s' v = some x := by
  unfold ldc at *
  split at e
  · rename_i b i j
    cases hg : s.get b with
    | none => simp [hg] at e
    | some k => simp only [hg] at e; simp only [h b k hg]; exact e
  · simp at e

theorem lda_ext {n : Nat} {v x : Value} (e : lda s n v = some x) : lda s' n v = some x := by
  unfold lda at *
  split at e
  · rename_i b i j
    cases hg : s.get b with
    | none => simp [hg] at e
    | some k => simp only [hg] at e; simp only [h b k hg]; exact e
  · simp at e

theorem idx_ext {n : Nat} {v i x : Value} (e : idx s n v i = some x) : idx s' n v i = some x := by
  unfold idx at *
  split at e
  · rename_i b i len e0 k m
    split at e
    · rename_i hc
      rw [if_pos hc]
      cases hg : s.get b with
      | none => simp [hg] at e
      | some k => simp only [hg] at e; simp only [h b k hg]; exact e
    · simp at e
  · simp at e

theorem slc_ext {n : Nat} {v x : Value} {lo hi mx : Option Value} (e : slc s n v lo hi mx = some x) : slc s' n v lo hi mx = some x := by
  unfold slc at *
  simp only [Option.bind_eq_some_iff] at e ⊢
  obtain ⟨l, h1, e⟩ := e
  refine ⟨l, h1, ?_⟩
  split at e
  · rename_i b i len e0
    simp only [Option.bind_eq_some_iff] at e ⊢
    obtain ⟨m, h2, e⟩ := e
    refine ⟨m, h2, ?_⟩
    cases hg : s.get b with
    | none => simp [hg] at e
    | some k => simp only [hg] at e; simp only [h b k hg]; exact e
  · exact e
  · simp at e

theorem rowsOf_ext {n m : Nat} {v : Value} {x : List (List Value)} (e : rowsOf s n m v = some x) : rowsOf s' n m v = some x := by
  unfold rowsOf at *
  split at e
  · rename_i b i len e0
    cases hg : s.get b with
    | none => simp [hg] at e
    | some k => simp only [hg] at e; simp only [h b k hg]; exact e
  · exact e
  · exact e
  · simp at e

theorem lenM_ext {v x : Value} (e : lenM s v = some x) : lenM s' v = some x := by
  unfold lenM at *
  split at e
  · exact e
  · rename_i b
    cases hg : s.get b with
    | none => simp [hg] at e
    | some k => simp only [hg] at e; simp only [h b k hg]; exact e
  · simp at e

theorem b2s_ext {v x : Value} (e : b2s s v = some x) : b2s s' v = some x := by
  unfold b2s at *
  simp only [Option.bind_eq_some_iff] at e ⊢
  obtain ⟨l, h1, e⟩ := e
  refine ⟨l, h1, ?_⟩
  split at e
  · simp only [Option.bind_eq_some_iff] at e ⊢
    obtain ⟨rows, h2, e⟩ := e
    exact ⟨rows, rowsOf_ext h h2, e⟩
  · simp at e

theorem lkp_ext {ks : List Nat} {agg ok : Bool} {z m k x : Value} (e : lkp s ks agg z ok m k = some x) : lkp s' ks agg z ok m k = some x := by
  unfold lkp at *
  split at e
  · rename_i hk
    rw [if_pos hk]
    split at e
    · exact e
    · rename_i b
      cases hg : s.get b with
      | none => simp [hg] at e
      | some k => simp only [hg] at e; simp only [h b k hg]; exact e
    · simp at e
  · simp at e

end

/-! ### Operands -/

section
variable {P : Program} {C : Ctx} {an : An} {s s' : St} {fr fr' : Fr} {ops : Array Oper} {og : Option (Nat × Bool)}

/-- These temporaries stand in both frames alike. -/
def SameOn (ts : List Nat) (fr fr' : Fr) : Prop := ∀ t ∈ ts, lookE fr'.e t = lookE fr.e t ∧ lookG fr'.g t = lookG fr.g t

def Same (fr fr' : Fr) (x : Operand) : Prop := ∀ og, evE fr' og x = evE fr og x

theorem evE_same {x : Operand} (h : ∀ t, x = .tmp t → lookE fr'.e t = lookE fr.e t ∧ lookG fr'.g t = lookG fr.g t) : Same fr fr' x := by
  intro og
  cases x with
  | tmp t => obtain ⟨h1, h2⟩ := h t rfl; simp only [evE, h1, h2]
  | _ => rfl

theorem SameOn.op {o : Oper} (h : SameOn (o.looksAt ops) fr fr') {x : Operand} (hx : x ∈ o.op.operands) : Same fr fr' x :=
  evE_same fun t ht => h t (List.mem_append_left _ (List.mem_filterMap.2 ⟨.tmp t, by rw [← ht]; simpa using hx, rfl⟩))

theorem SameOn.guard {o : Oper} {g gt : Nat} {w : Bool} (h : SameOn (o.looksAt ops) fr fr') (hg : o.guard = some (g, w)) (hd : (ops[g]?).bind (·.dst) = some gt) : Same fr fr' (.tmp gt) :=
  evE_same fun t ht => by
    simp only [Operand.tmp.injEq] at ht
    subst ht
    exact h gt (List.mem_append_right _ (by simp [hg, hd]))

theorem Same.v {x : Operand} (h : Same fr fr' x) : evV fr' x = evV fr x := by unfold evV; rw [h none]

theorem same_vs : ∀ {l : List Operand}, (∀ x ∈ l, Same fr fr' x) → evVs fr' l = evVs fr l
  | [], _ => rfl
  | x :: l, h => by simp only [evVs, (h x (by simp)).v, same_vs (l := l) fun y hy => h y (by simp [hy])]

theorem same_ps : ∀ {l : List (Nat × Operand)}, (∀ q ∈ l, Same fr fr' q.2) → evPs fr' l = evPs fr l
  | [], _ => rfl
  | (i, x) :: l, h => by simp only [evPs, (h (i, x) (by simp)).v, same_ps (l := l) fun y hy => h y (by simp [hy])]

theorem same_o {x : Option Operand} (h : ∀ y, x = some y → Same fr fr' y) : evO fr' x = evO fr x := by
  cases x with
  | none => rfl
  | some x => simp only [evO, (h x rfl).v]

/-- What an operation reads as. -/
def Val1 : OpR → Ent → Prop
  | .k v, x => x = .val v
  | .v m, x => ∃ v, m = some v ∧ x = .val v
  | .p t j, x => x = .lp t j
  | _, _ => False

theorem clsOf_same {o : Oper} (hs : SameOn (o.looksAt ops) fr fr') : clsOf P C an ops fr' o = clsOf P C an ops fr o := by
  obtain ⟨dst, op, ty, pos, after, guard⟩ := o
  cases op
  case load t x => simp only [clsOf, hs.op (x := x) (by simp [Op.operands]) _]
  case store t x y => simp only [clsOf, hs.op (x := x) (by simp [Op.operands]) _]
  case call c =>
    obtain ⟨callee, args, ats⟩ := c
    cases callee with
    | value x => cases x <;> rfl
    | invoke _ _ => rfl
    | builtin b => rfl
  all_goals rfl

theorem slotOf_same {o : Oper} (hs : SameOn (o.looksAt ops) fr fr') : slotOf ops fr' o = slotOf ops fr o := by
  obtain ⟨dst, op, ty, pos, after, guard⟩ := o
  cases op
  case load t x => simp only [slotOf, hs.op (x := x) (by simp [Op.operands]) _]
  case store t x y => simp only [slotOf, hs.op (x := x) (by simp [Op.operands]) _]
  all_goals rfl

theorem codeOf_same {o : Oper} (hs : SameOn (o.looksAt ops) fr fr') : codeOf P C an ops fr' o = codeOf P C an ops fr o := by
  unfold codeOf
  rw [clsOf_same hs, slotOf_same hs]

theorem clsOf_lt {o : Oper} : clsOf P C an ops fr o < 8 := by
  unfold clsOf
  repeat (first | decide | split)

theorem mod_help (c s : Nat) (h : c < 8) : (c + 8 * s) % 8 = c := by omega
theorem div_help (c s : Nat) (h : c < 8) : (c + 8 * s) / 8 = s := by omega

theorem code_mod {o : Oper} : codeOf P C an ops fr o % 8 = clsOf P C an ops fr o := mod_help _ _ clsOf_lt

theorem code_div {o : Oper} : codeOf P C an ops fr o / 8 = slotOf ops fr o := div_help _ _ (clsOf_lt (P := P) (C := C) (an := an))

theorem val_v {m m' : Option Value} {x : Ent} (h : Val1 (.v m) x) (he : ∀ v, m = some v → m' = some v) : Val1 (.v m') x := by
  obtain ⟨v, h1, h2⟩ := h
  exact ⟨v, he v h1, h2⟩

theorem builtin_same {b : Builtin} {ts : List TypeId} {vs : List Value} {x : Ent} (h : Ext s s') (hv : Val1 (builtinR P b ts vs s) x) : Val1 (builtinR P b ts vs s') x := by
  unfold builtinR at *
  split at hv
  · split at hv
    · exact hv
    · exact hv
    · exact val_v hv fun v => lenM_ext h
    · exact hv
  · exact hv
  · exact hv
  · repeat (first | exact hv.elim | split at hv)
  · repeat (first | exact hv.elim | split at hv)
  · exact hv.elim

theorem builtin_same0 {b : Builtin} {ts : List TypeId} {vs : List Value} {x : Ent} (h : b = .min ∨ b = .max) (hv : Val1 (builtinR P b ts vs s) x) : Val1 (builtinR P b ts vs s') x := by
  unfold builtinR at *
  split at hv
  · simp at h
  · exact hv
  · exact hv
  · simp at h
  · simp at h
  · exact hv.elim

theorem opR_congr {o : Oper} {x : Ent} (hog : og = ogOf ops o) (hc : clsOf P C an ops fr o ≤ 2) (hs : SameOn (o.looksAt ops) fr fr') (hl : clsOf P C an ops fr o = 1 → LocAt (slotOf ops fr o) fr fr') (he : clsOf P C an ops fr o = 2 → Ext s s')
    (hv : Val1 (opR std P C an fr s og o) x) : Val1 (opR std P C an fr' s' og o) x := by
  obtain ⟨dst, op, ty, pos, after, guard⟩ := o
  cases op
  case move y => simp only [opR, hs.op (x := y) (by simp [Op.operands]) _] at hv ⊢; exact hv
  case assign y => simp only [opR, hs.op (x := y) (by simp [Op.operands]) _] at hv ⊢; exact hv
  case nilCheck y => simp only [opR, hs.op (x := y) (by simp [Op.operands]) _] at hv ⊢; exact hv
  case fieldAddr t y f => simp only [opR, hs.op (x := y) (by simp [Op.operands]) _] at hv ⊢; exact hv
  case pick c y z => simp only [opR, (hs.op (x := c) (by simp [Op.operands])).v, (hs.op (x := y) (by simp [Op.operands])).v, (hs.op (x := z) (by simp [Op.operands])).v] at hv ⊢; exact hv
  case binOp b t y z u => simp only [opR, (hs.op (x := y) (by simp [Op.operands])).v, (hs.op (x := z) (by simp [Op.operands])).v] at hv ⊢; exact hv
  case unOp b t y => simp only [opR, (hs.op (x := y) (by simp [Op.operands])).v] at hv ⊢; exact hv
  case makeInterface t y => simp only [opR, (hs.op (x := y) (by simp [Op.operands])).v] at hv ⊢; exact hv
  case makeFunc fn f c =>
    simp only [opR, same_vs (fr := fr) (fr' := fr') (l := f.toList) fun y hy => hs.op (by simp only [Op.operands]; simp at hy ⊢; exact .inl hy),
      same_vs (fr := fr) (fr' := fr') (l := c.toList) fun y hy => hs.op (by simp only [Op.operands]; simp at hy ⊢; exact .inr hy)] at hv ⊢
    exact hv
  case build t ps =>
    simp only [opR, same_ps (fr := fr) (fr' := fr') (l := ps.toList) fun q hq => hs.op (by simp only [Op.operands]; simp at hq ⊢; exact ⟨q.1, hq⟩)] at hv ⊢
    exact hv
  case field t y f => simp only [opR, (hs.op (x := y) (by simp [Op.operands])).v] at hv ⊢; exact hv
  case index t y z => simp only [opR, (hs.op (x := y) (by simp [Op.operands])).v, (hs.op (x := z) (by simp [Op.operands])).v] at hv ⊢; exact hv
  case typeAssert y xt t ok => simp [clsOf] at hc
  case extract y i => simp only [opR, (hs.op (x := y) (by simp [Op.operands])).v] at hv ⊢; exact hv
  case load t y =>
    simp only [clsOf, slotOf, ← hog] at hc hl he
    simp only [opR, hs.op (x := y) (by simp [Op.operands]) _] at hv ⊢
    cases hy : evE fr og y with
    | none =>
      rw [hy] at hv
      split at hv <;> first | exact hv.elim | simp_all
    | some q =>
      rw [hy] at hv he hl
      cases q with
      | val u =>
        have hx := he rfl
        split at hv
        · exact val_v hv fun v => lda_ext hx
        · exact val_v hv fun v => ldc_ext hx
        · simp_all
        · exact hv.elim
      | lp t' j =>
        have hlk : lookL fr'.l t' = lookL fr.l t' := by
          refine hl rfl ?_
          cases y with
          | tmp t0 =>
            simp only [evE] at hy
            cases hg : lookG fr.g t0 with
            | none => rw [hg] at hy; exact .inl ⟨t0, j, hy⟩
            | some q =>
              obtain ⟨t1, j1, gt1, b1⟩ := q
              rw [hg] at hy
              simp only at hy
              refine .inr ⟨t0, j1, gt1, b1, ?_⟩
              split at hy
              · simp at hy
              · split at hy
                · split at hy
                  · simp only [Option.some.injEq, Ent.lp.injEq] at hy
                    rw [hg, hy.1]
                  · simp at hy
                · simp at hy
          | const v => simp only [evE] at hy; split at hy <;> simp at hy
          | global g => simp [evE] at hy
          | func f => simp [evE] at hy
        split at hv
        · simp_all
        · simp_all
        · rename_i h1 h2 h3
          simp only [Option.some.injEq, Ent.lp.injEq] at h3
          obtain ⟨rfl, rfl⟩ := h3
          simp only [h1, h2, hlk]
          exact hv
        · exact hv.elim
  case convert src dt y =>
    simp only [clsOf] at hc he
    simp only [opR, (hs.op (x := y) (by simp [Op.operands])).v] at hv ⊢
    split at hv
    · exact hv
    · exact hv
    · rename_i e u h1 h2 h3
      rw [h1, h2] at he
      have hx := he rfl
      split at hv
      · exact val_v hv fun v => b2s_ext hx
      · exact hv.elim
    · rename_i h1 h2 h3
      exfalso
      simp [h1, h2] at hc
    · exact hv.elim
  case slice t y lo hi mx =>
    have hx := he rfl
    simp only [opR, (hs.op (x := y) (by simp [Op.operands])).v, same_o (fr := fr) (fr' := fr') (x := lo) fun z hz => hs.op (by subst hz; simp [Op.operands]),
      same_o (fr := fr) (fr' := fr') (x := hi) fun z hz => hs.op (by subst hz; simp [Op.operands]), same_o (fr := fr) (fr' := fr') (x := mx) fun z hz => hs.op (by subst hz; simp [Op.operands])] at hv ⊢
    split at hv
    · exact hv
    · split at hv
      · split at hv
        · exact hv.elim
        · rename_i hb
          rw [if_neg hb]
          exact val_v hv fun v => slc_ext hx
      · exact hv.elim
    · exact hv.elim
  case indexAddr t y z =>
    simp only [clsOf] at he
    simp only [opR, hs.op (x := y) (by simp [Op.operands]) _, (hs.op (x := z) (by simp [Op.operands])).v] at hv ⊢
    split at hv
    · rename_i h1 _ _
      rw [h1] at he
      have hx := he rfl
      split at hv
      · exact val_v hv fun v => idx_ext hx
      · exact hv.elim
    · exact hv
    · exact hv.elim
  case lookup t y z ok =>
    have hx := he rfl
    simp only [opR, (hs.op (x := y) (by simp [Op.operands])).v, (hs.op (x := z) (by simp [Op.operands])).v] at hv ⊢
    split at hv
    · split at hv
      · split at hv
        · rename_i hb
          rw [if_pos hb]
          exact val_v hv fun v => lkp_ext hx
        · exact hv.elim
      · exact hv.elim
    · exact hv.elim
  case call c =>
    obtain ⟨callee, args, ats⟩ := c
    simp only [opR, same_vs (fr := fr) (fr' := fr') (l := args.toList) fun y hy => hs.op (by simp only [Op.operands, Call.operands]; simp at hy ⊢; exact .inr hy)] at hv ⊢
    split at hv
    · exact hv.elim
    · cases callee with
      | value y =>
        exfalso
        cases y <;> simp only [clsOf] at hc <;> (try split at hc) <;> simp at hc
      | invoke _ _ => simp [clsOf] at hc
      | builtin b =>
        cases b <;> simp only [clsOf] at hc he <;> first
          | (simp at hc; done)
          | exact builtin_same (he trivial) hv
          | exact builtin_same0 (.inl rfl) hv
          | exact builtin_same0 (.inr rfl) hv
  case alloc t => exfalso; simp only [clsOf] at hc; split at hc <;> (try split at hc) <;> simp at hc
  case box t y => exfalso; simp only [clsOf] at hc; split at hc <;> (try split at hc) <;> simp at hc
  case store t y z => exfalso; simp only [clsOf] at hc; split at hc <;> simp at hc
  all_goals (simp [clsOf] at hc)

end
end Go.Sim
