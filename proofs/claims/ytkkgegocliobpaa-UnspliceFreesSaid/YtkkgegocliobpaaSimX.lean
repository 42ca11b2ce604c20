/-
  A law's row: from the evaluator's answer to the claim's contract.
-/
import Derived.Test.YtkkgegocliobpaaSimW
import Derived.Carry
import Derived.ChangeSame
set_option linter.unusedSimpArgs false
set_option linter.unusedVariables false
namespace Go.Sim
open Go.RowKit (Below)
open Go.ChangeShapes Go.WideShapes Go.RowKit

/-- What an abstract argument of a type looks like. -/
def TyV (P : Program) (s : St) (d : Nat) (t : TypeId) (v : Value) : Prop :=
  match P.underlying t with
  | some (.struct _) | some (.array _ _) => ∃ cs, v = .agg ⟨cs⟩ ∧ TyA P s d t cs
  | _ => TyA P s d t [v]

def TyVs (P : Program) (s : St) (d : Nat) : List TypeId → List Value → Prop
  | [], [] => True
  | t :: ts, v :: vs => TyV P s d t v ∧ TyVs P s d ts vs
  | _, _ => False

theorem TyV.ext {P : Program} {s s' : St} (h : Ext s s') {d : Nat} {t : TypeId} {v : Value} (e : TyV P s d t v) : TyV P s' d t v := by
  unfold TyV at *
  split at e
  · obtain ⟨cs, h1, h2⟩ := e; exact ⟨cs, h1, TyA.ext h h2⟩
  · obtain ⟨cs, h1, h2⟩ := e; exact ⟨cs, h1, TyA.ext h h2⟩
  · exact TyA.ext h e

theorem hasB_of_cellOk {P : Program} {w : World} {r : Reach} {base : Nat} {t : TypeId} {a : Addr} {len cap : Nat} (h : Cell.okWide P w r base t (.slice (some a) len cap)) : HasB w := by
  have h2 : Cell.ok P w r base t (.slice (some a) len cap) := by
    unfold Cell.okWide at h
    split at h <;> first | exact h | simp_all
  unfold Cell.ok at h2
  split at h2 <;> first | (simp at *; done) | skip
  all_goals rename_i hv
  all_goals first | (simp at hv; done) | skip
  · rename_i e a' len' cap' hu
    simp only [Value.slice.injEq, Option.some.injEq] at hv
    obtain ⟨rfl, rfl, rfl⟩ := hv
    obtain ⟨_, _, _, _, row, cells, hs, _⟩ := h2
    unfold World.shape? at hs
    split at hs
    · rename_i c x fz hh; exact ⟨_, c, _, _, hh⟩
    · simp at hs

theorem hb_of_ok {P : Program} {w : World} {r : Reach} {base : Nat} {t : TypeId} {v : Value} (h : Value.okWide P w r base t v) : HB w v.cells.toList := by
  intro a len cap hm
  unfold Value.okWide at h
  have row : ∀ cs : Array Value, v = .agg cs → Row.okWide P w r base t cs → HasB w := fun cs hv hr => by
    obtain ⟨ts, _, _, hall⟩ := hr
    subst hv
    obtain ⟨i, hi⟩ := List.getElem?_of_mem hm
    obtain ⟨u, _, hc⟩ := hall i _ (by simpa [Value.cells] using hi)
    exact hasB_of_cellOk hc
  split at h
  · obtain ⟨cs, hv, _, hr⟩ := h; exact row cs hv hr
  · obtain ⟨cs, hv, _, hr⟩ := h; exact row cs hv hr
  · cases v with
    | agg cs =>
      exfalso
      unfold Cell.okWide at h
      split at h <;> first | exact h | (simp at *; done) | skip
      all_goals first | (rename_i hv; simp at hv; done) | skip
      unfold Cell.ok at h
      split at h <;> first | exact h | (simp at *; done) | (rename_i hv; simp at hv; done)
    | slice b l c =>
      simp [Value.cells] at hm
      obtain ⟨rfl, rfl, rfl⟩ := hm
      exact hasB_of_cellOk h
    | _ => simp [Value.cells] at hm

section
variable {P : Program} {w : World} {H : Type} {enc : TypeId × Value → H} {held : Bool}

theorem arg_abs {d base : Nat} {t : TypeId} {v : Value} {y : DataW H} {ps : List MemPlace} {φ : Phi} {s : St} (ht : tyOk P d t = true) (h : DataW.Trod enc P w 0 (fun _ => true) held t v y ps) (hok : Value.okWide P w .any base t v)
    (hr : Rel φ s w) (ha : AllRo s) : ∃ φ' s' u, Rel φ' s' w ∧ AllRo s' ∧ φ.le φ' ∧ Ext s s' ∧ VRel φ' u v ∧ TyV P s' d t u := by
  obtain ⟨m, hm⟩ := h
  obtain ⟨φ', s', abs, h1, h2, h3, h4, h5, h6, h7⟩ := args_abs d ht hm (hb_of_ok hok) hr ha
  unfold Value.okWide at hok
  unfold TyV
  split at hok
  · rename_i hu
    obtain ⟨cs, rfl, _, _⟩ := hok
    exact ⟨φ', s', .agg ⟨abs⟩, h1, h2, h3, h4, .agg h5 h6, by rw [hu]; exact ⟨abs, rfl, h7⟩⟩
  · rename_i hu
    obtain ⟨cs, rfl, _, _⟩ := hok
    exact ⟨φ', s', .agg ⟨abs⟩, h1, h2, h3, h4, .agg h5 h6, by rw [hu]; exact ⟨abs, rfl, h7⟩⟩
  · rename_i n1 n2
    have key : ∃ a, abs = [a] := by
      cases d with
      | zero => exact h7.elim
      | succ d =>
        unfold TyA at h7
        split at h7
        · obtain ⟨b, rfl⟩ := h7; exact ⟨_, rfl⟩
        · obtain ⟨b, rfl, _⟩ := h7; exact ⟨_, rfl⟩
        · obtain ⟨b, rfl, _⟩ := h7; exact ⟨_, rfl⟩
        · rcases h7 with rfl | ⟨_, _, _, _, rfl, _⟩ <;> exact ⟨_, rfl⟩
        · rename_i fs hu; exact absurd hu (n1 _)
        · rename_i n e hu; exact absurd hu (n2 _ _)
        · exact h7.elim
    obtain ⟨a, rfl⟩ := key
    have hv : v.cells.toList = [v] := by
      have hl := h5.length
      cases v with
      | agg cs =>
        exfalso
        unfold Cell.okWide at hok
        split at hok <;> first | exact hok | (simp at *; done) | skip
        all_goals first | (rename_i hv; simp at hv; done) | skip
        unfold Cell.ok at hok
        split at hok <;> first | exact hok | (simp at *; done) | (rename_i hv; simp at hv; done)
      | _ => simp [Value.cells]
    rw [hv] at h5
    cases h5 with
    | cons h5 _ => exact ⟨φ', s', a, h1, h2, h3, h4, h5, by split <;> first | exact h7 | exact absurd ‹_› (n1 _) | exact absurd ‹_› (n2 _ _)⟩

theorem row_args {d base : Nat} : ∀ {ts : List TypeId} {vs : List Value} {ds : List (DataW H)} {ps : List MemPlace} {φ : Phi} {s : St}, ts.all (tyOk P d) = true → DataW.TrodAll enc P w 0 (fun _ => true) held ts vs ds ps →
    (∀ (j : Nat) t v, ts[j]? = some t → vs[j]? = some v → Value.okWide P w .any base t v) → Rel φ s w → AllRo s → ∃ φ' s' us, Rel φ' s' w ∧ AllRo s' ∧ φ.le φ' ∧ Ext s s' ∧ VsRel φ' us vs ∧ TyVs P s' d ts us
  | [], vs, ds, ps, φ, s, _, h, _, hr, ha => by
    obtain ⟨rfl, rfl, rfl⟩ := trodAll_nil h
    exact ⟨φ, s, [], hr, ha, .refl _, .refl s, .nil, trivial⟩
  | t :: ts, vs, ds, ps, φ, s, ht, h, hok, hr, ha => by
    obtain ⟨v, vs', y, ds', p, q, rfl, rfl, rfl, h1, h2⟩ := trodAll_cons h
    simp only [List.all_cons, Bool.and_eq_true] at ht
    obtain ⟨φ1, s1, u, a1, a2, a3, a4, a5, a6⟩ := arg_abs ht.1 h1 (hok 0 t v rfl rfl) hr ha
    obtain ⟨φ2, s2, us, b1, b2, b3, b4, b5, b6⟩ := row_args ht.2 h2 (fun j t v e1 e2 => hok (j + 1) t v e1 e2) a1 a2
    exact ⟨φ2, s2, u :: us, b1, b2, a3.trans b3, a4.trans b4, .cons (a5.mono b3) b5, TyV.ext b4 a6, b6⟩

theorem below_trodAll {W W' : World} (hl : laidOutB P = true) (hb : Below W.heap.size W W') : ∀ {ts : List TypeId} {vs : List Value} {ds : List (DataW H)} {ps : List MemPlace} (hr : ∀ t ∈ ts, P.readableRec t = true ∧ t < P.types.size)
    (h : DataW.TrodAll enc P W 0 (fun _ => true) true ts vs ds ps) (hlt : ∀ x ∈ ps, x.block < W.heap.size) {sp : Nat → Bool} (hsp : ∀ x ∈ ps, sp x.block = true), DataW.TrodAll enc P W' 0 sp true ts vs ds ps
  | [], _, _, _, _, h, _, _, _ => by
    obtain ⟨rfl, rfl, rfl⟩ := trodAll_nil h
    rfl
  | t :: ts, _, _, _, hr, h, hlt, sp, hsp => by
    obtain ⟨v, vs', y, ds', p, q, rfl, rfl, rfl, h1, h2⟩ := trodAll_cons h
    refine ⟨p, q, WideElems.Trod_stays hl (hr t (by simp)).1 (hr t (by simp)).2 h1 (fun x hx => hb.same (hlt x (by simp [hx]))) (fun x hx => hsp x (by simp [hx])),
      below_trodAll hl hb (fun t' ht' => hr t' (by simp [ht'])) h2 (fun x hx => hlt x (by simp [hx])) (fun x hx => hsp x (by simp [hx])), rfl⟩

end

section
variable {H : Type} {enc : TypeId × Value → H} {P : Program}
/-- What a claim asks of a call behind which all that was there reads as before, whatever is frozen of what is new. -/
theorem post_here {f : Func} {s : ChangeSpec} {apart fresh handsOn again : Bool} {W W' : World} {args : Array Value} {v : Value} {ds gs : List (DataW H)} {before pa pv : List MemPlace}
    (hW : DataW.Whole enc P f.params.toList s.vars apart W args.toList ds gs before)
    (hres : ∀ (b : Nat) (sp : Nat → Bool) (hd : Bool), DataW.TrodAll enc P W' b sp hd f.resultTypes.toList (v.resultList f.resultTypes.size) (s.fn H (ds ++ gs)).results [])
    (hargs : ∀ sp : Nat → Bool, (∀ p ∈ before, sp p.block = true) → DataW.TrodAll enc P W' 0 sp true f.params.toList args.toList (s.fn H (ds ++ gs)).args pa)
    (hvars : ∀ sp : Nat → Bool, (∀ p ∈ before, sp p.block = true) → DataW.TrodVars enc P W' sp s.vars (s.fn H (ds ++ gs)).vars pv)
    (hps : before = pa ++ pv) (hk : W.keptBut W' (· ∈ before)) (hfz : Froz W W')
    (hok : ∀ (j : Nat) (t : TypeId) (r : Value), f.resultTypes[j]? = some t → (v.resultList f.resultTypes.size)[j]? = some r → Value.okWide P W' .any 0 t r) :
    s.post enc P f apart fresh handsOn again W args v W' := by
  have hlt : ∀ p ∈ before, p.block < W.heap.size := fun p hp => hW.lt p hp
  have hold : ∀ p ∈ before, (fun b => decide (b < W.heap.size)) p.block = true := fun p hp => by simpa using hlt p hp
  refine ⟨ds, gs, before, [], pa, pv, hW, hres _ _ _, hargs _ hold, hvars _ hold, World.keptBut_mono (fun p hp => ⟨hp, ?_⟩) hk, fun _ => ?_⟩
  · rw [hps, List.mem_append] at hp
    exact Or.inr hp
  · obtain ⟨_, _, _, _, _, hz, hn⟩ := hW
    refine ⟨hok, _, _, ([] ++ pa) ++ pv, ⟨[] ++ pa, pv, trodAll_append (hargs _ (fun _ _ => rfl)) (hres _ _ _), hvars _ (fun _ _ => rfl), rfl, ?_, ?_⟩, ?_⟩
    · intro b off hp
      have hm : MemPlace.cell b off ∈ before := by rw [hps]; simpa using hp
      rw [hfz _ (hlt _ hm)]
      exact hz b off hm
    · intro ha
      have := hn ha
      rw [hps] at this
      simpa using this
    · intro p hp _
      rw [hps]
      simpa using hp
end

/-- THE ROW: a law without variables that answers `true` and leaves its arguments alone. -/
theorem contract {P : Program} {fid : FuncId} {fn : Func} {d : Nat} {tb : TypeId} {F : List Value → St → Option (Value × St)} {spec : ChangeSpec} {H : Type} {enc : TypeId × Value → H} {apart fresh handsOn again : Bool}
    (hl : laidOutB P = true) (hts : fn.params.toList.all (fun t => tyOk P d t && P.readableRec t && decide (t < P.types.size)) = true)
    (hres : fn.resultTypes = #[tb]) (htb : P.underlying tb = some .bool) (hv : spec.vars = [])
    (hfn : ∀ ds : List (DataW H), ds.length = fn.params.size → (spec.fn H ds).results = [.lit (.bool true)] ∧ (spec.fn H ds).args = ds ∧ (spec.fn H ds).vars = [])
    (sound : FnOk P fid (.st F))
    (law : ∀ (φ : Phi) (s : St) (us vs : List Value) (W : World), Rel φ s W → AllRo s → TyVs P s d fn.params.toList us → VsRel φ us vs → ∃ φ1 s1 us1, Rel φ1 s1 W ∧ AllRo s1 ∧ VsRel φ1 us1 vs ∧ ∃ s', F us1 s1 = some (.bool true, s'))
    (W : World) (base : Nat) (args : Array Value) (ds gs : List (DataW H)) (before : List MemPlace)
    (hval : ∀ (j : Nat) t v, fn.params[j]? = some t → args[j]? = some v → Value.okWide P W .any base t v)
    (hW : DataW.Whole enc P fn.params.toList spec.vars apart W args.toList ds gs before) :
    Calls P fid args W fun e W' => ∃ v, e = .returned v ∧ spec.post enc P fn apart fresh handsOn again W args v W' := by
  have hW' := hW
  obtain ⟨p, q, hA, hV, rfl, hfz, hnd⟩ := hW
  rw [hv] at hV
  obtain ⟨rfl, rfl⟩ := trodVars_none hV
  have hts' : fn.params.toList.all (tyOk P d) = true := by
    rw [List.all_eq_true] at hts ⊢
    intro t ht
    have := hts t ht
    simp only [Bool.and_eq_true] at this
    exact this.1.1
  obtain ⟨φ, s, us, h1, h2, _, _, h5, h6⟩ := row_args (φ := fun _ => none) (s := ⟨[], 0⟩) hts' hA (fun j t v e1 e2 => hval j t v (by simpa using e1) (by simpa using e2)) (rel_nil W) (AllRo.nil 0)
  obtain ⟨φ, s, us, h1, h2, h5, s', hF⟩ := law φ s us _ W h1 h2 h6 h5
  have hlen : ∀ {ts : List TypeId} {vs : List Value} {es : List (DataW H)} {ps : List MemPlace}, DataW.TrodAll enc P W 0 (fun _ => true) true ts vs es ps → es.length = ts.length := by
    intro ts
    induction ts with
    | nil => intro vs es ps h; obtain ⟨rfl, rfl, rfl⟩ := trodAll_nil h; rfl
    | cons t ts ih => intro vs es ps h; obtain ⟨v, vs', y, ds', p, q, rfl, rfl, rfl, _, h2⟩ := trodAll_cons h; simp [ih h2]
  obtain ⟨f1, f2, f3⟩ := hfn ds (by rw [hlen hA]; simp)
  have hc := sound φ s W us args.toList _ s' h1 h5 hF
  simp only [Array.toArray_toList] at hc
  have ea : (⟨args.toList⟩ : Array Value) = args := by cases args; rfl
  try rw [ea] at hc
  refine hc.mono fun e W' he => ?_
  cases e with
  | returned u =>
    obtain ⟨φ', hst, hvr⟩ := he
    cases hvr with
    | bool =>
    have hb : Below W.heap.size W W' := ⟨hst.frm.os, hst.frm.tape, hst.frm.output, hst.frm.size, fun c hc => hst.frm.old c hc fun b k l g1 g2 _ => by rw [h2 b k g1] at g2; cases g2⟩
    have hlt : ∀ x ∈ p, x.block < W.heap.size := fun x hx => hW'.lt x (by simp [hx])
    have e0 : ds ++ ([] : List (DataW H)) = ds := by simp
    refine ⟨_, rfl, post_here (pa := p) (pv := []) hW' (fun b sp hd => ?_) (fun sp hsp => ?_) (fun _ _ => ?_) rfl (hb.frame _) (Froz.of_below hb) (ok_one hres rfl (okWide_bool_mk htb _))⟩
    · rw [e0, f1, hres]
      exact trodAll_cons_mk (shut_bool htb _) trodAll_mk0
    · rw [e0, f2]
      refine below_trodAll hl hb (fun t ht => ?_) hA hlt (fun x hx => hsp x (by simp [hx]))
      rw [List.all_eq_true] at hts
      have := hts t ht
      simp only [Bool.and_eq_true, decide_eq_true_eq] at this
      exact ⟨this.1.2, this.2⟩
    · rw [e0, f3, hv]
      rfl
  | _ => exact he.elim
end Go.Sim
