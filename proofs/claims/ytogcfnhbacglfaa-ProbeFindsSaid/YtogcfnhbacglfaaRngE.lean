/-
  A function that ranges over a function of its own: against the model's.
-/
import Derived.Test.YtogcfnhbacglfaaRngD
set_option linter.unusedSimpArgs false
set_option linter.unusedVariables false
namespace Go.Sim
open Go.RowKit (Below)

section
variable {P : Program} {C C2 : Ctx} {an anI : An} {an2 : List Deferred → An} {φ0 φ φ' φb : Phi} {ψ : Nat → Option Nat} {s0 s s' sb : St} {w0 w w' wb : World} {fr fr' : Fr} {a g : Act} {ops : Array Oper}

theorem Here.to {an an' : An} {ts : List Nat} {ys : List Value} (h : Here an φ s w (frV ts ys) a) (hN : an'.N = an.N) {ds : List Deferred} (hd : an'.D = ds) (hr : Rel φ' s' w') (hle : φ.le φ') : Here an' φ' s' w' (frV ts ys) { a with defers := ds } := by
  refine inv_fresh hr (by rw [hN]; exact h.size) hd.symm fun t x hx => ?_
  obtain ⟨h1, h2⟩ := h.frel.env t x hx
  cases x with
  | val v => exact ⟨v, rfl, h1, h2.mono hle⟩
  | lp t j =>
    exfalso
    revert hx
    clear h h1 h2
    induction ts generalizing ys with
    | nil => intro hx; simp [frV, lookE] at hx
    | cons t0 ts ih =>
      cases ys with
      | nil => intro hx; simp [frV, lookE] at hx
      | cons y ys =>
        intro hx
        simp only [frV, lookE] at hx
        split at hx
        · cases hx
        · exact ih hx
/-- The iterator, called. -/
theorem it_call (hC : CtxOk P C2) (hm : P.follows .mixedOrders = true) {g : FuncId} {gn : Func} (d : ItC) (hg : P.funcs[g]? = some gn) (hgb : gn.body = some d.all) (hgn : gn.ntmps = anI.N) (hgr : gn.results = #[]) (hID : anI.D = [])
    {ls ms : List Nat} {k : Nat} (T : ItT d anI ls ms (k + 1))
    (d0 : drawsOk anI d.R0 = true) (d1 : drawsOk anI d.R1 = true) (dX : drawsOk anI d.X = true) (d2 : drawsOk anI d.R2 = true) (dZ : drawsOk anI d.Z = true) (d4 : drawsOk anI d.R4 = true)
    {hu : List Value → St → Option (List Value × St)} {pu : List Value → St → Option (Nat × List Value × St)} {qu : List Value → St → Option (List Value × St)}
    (hH : ∀ x0 cs s r, hu cs s = some r → cs.length + 1 ≤ anI.N ∧ itH std P C2 anI d.R0 ls (x0 :: cs) s = some (x0 :: r.1, r.2))
    (hP : ∀ x0 ys s r, pu ys s = some r → itP std P C2 anI d.R1 d.X d.R2 d.ops d.A d.i0 ls ms (x0 :: ys) s = some (r.1, (if r.1 = 1 then [] else x0 :: r.2.1), r.2.2))
    (hQ : ∀ x0 zs s r, qu zs s = some r → itQ std P C2 anI d.ops d.b2 d.Z d.R4 ls ms T.t19 (x0 :: zs) s = some (x0 :: r.1, r.2))
    (htl : ∀ s, itT std P C2 anI d.ops d.b1 d.b2 d.Z T.t15 T.t18 s = some s)
    {cs cs' xs : List Value} {s1 s2 s5 : St} {l b : Nat} {Tt : Phi → World → Prop} {R : Ending → World → Prop}
    (hr : Rel φ s w) (hcs : VsRel φ cs cs') (h1 : hu cs s = some (xs, s1)) (h2 : iter (itF pu qu k) BIG xs s1 = some (b, s2))
    (hdone : b = 1 → ∀ φ' w' v, Step φ s w φ' s2 w' → R (.returned v) w')
    (hyield : b = 2 → ∀ φ' w' v, Step φ s w φ' s2 w' → ∃ rf tmps assign body, (Instr.yield l #[v]).run P w' = .ok (.round l rf tmps assign body) w' ∧ RoundIn Fence.wide 0 P l rf tmps assign body w' (fun e w'' => e = .returned (.bool false) ∧ ∃ φ'', φ'.le φ'' ∧ Rel φ'' s5 w'' ∧ Tt φ'' w''))
    (hret : b = 2 → ∀ φ'' w φ3 v w3, Tt φ'' w → Rel φ'' s5 w → Step φ'' s5 w φ3 s5 w3 → R (.returned v) w3) :
    Calls P g (#[.func (.yield l) #[] #[]] ++ ⟨cs'⟩) w R := by
  obtain ⟨hlen, hH1⟩ := hH (.func (.yield l) ⟨[]⟩ ⟨[]⟩) _ _ _ h1
  unfold itH at hH1
  obtain ⟨e0, he0, henv⟩ := argsK_use hH1
  have hargs : VsRel φ (.func (.yield l) ⟨[]⟩ ⟨[]⟩ :: cs) (.func (.yield l) #[] #[] :: cs') := .cons (.func _ .nil .nil) hcs
  have hinv := inv_enter hr hargs hgn (by simpa using hlen) hID henv
  have hres : ∀ (tm : Array Value) (w : World), (results gn tm).run P w = .ok (.tuple ⟨[]⟩) w := fun tm w => results_run (fn := gn) (us := []) (by rw [hgr]; simp)
  rw [show (#[.func (.yield l) #[] #[]] ++ ⟨cs'⟩ : Array Value) = ⟨.func (.yield l) #[] #[] :: cs'⟩ by simp]
  refine calls_of_wp hg hgb ?_
  have hsz : (⟨.func (.yield l) #[] #[] :: cs'⟩ : Array Value).size = (.func (.yield l) #[] #[] :: cs').length := by simp
  rw [hsz]
  unfold ItC.all
  refine wp_seq (evC_sound hC hm d.R0 d0 hinv he0 (fun φ' ψ' s' fr' a' w' x u _ _ hk => by cases hk) ?_)
  intro e1 φ1 ψ1 s1' fr1 a1 w1 hpe i1 hk
  cases e1 with
  | exit i => cases hk
  | ret => cases hk
  | pan v => cases hpe
  | normal =>
  simp only at hk
  cases hg1 : getV fr1 ls with
  | none => rw [hg1] at hk; cases hk
  | some ys =>
  rw [hg1] at hk
  cases hk
  have hh := Here.of i1 hg1
  refine wp_block ?_
  let p : List Value → St → Option (Nat × List Value × St) := fun ys s => match ys with
    | x0 :: r => (pu r s).map fun y => (y.1, (if y.1 = 1 then [] else x0 :: y.2.1), y.2.2)
    | [] => none
  let q : List Value → St → Option (List Value × St) := fun ys s => match ys with
    | x0 :: r => (qu r s).map fun y => (x0 :: y.1, y.2)
    | [] => none
  have hp : ∀ ys s r, p ys s = some r → itP std P C2 anI d.R1 d.X d.R2 d.ops d.A d.i0 ls ms ys s = some r ∧ (r.1 ≠ 1 → r.2.1[0]? = ys[0]?) := by
    intro ys s r h
    cases ys with
    | nil => cases h
    | cons x0 ys =>
      obtain ⟨y, hy, rfl⟩ := Option.map_eq_some_iff.1 h
      exact ⟨hP x0 _ _ _ hy, fun hn => by simp only at hn; simp [hn]⟩
  have hq : ∀ zs s r, q zs s = some r → itQ std P C2 anI d.ops d.b2 d.Z d.R4 ls ms T.t19 zs s = some r ∧ r.1[0]? = zs[0]? := by
    intro zs s r h
    cases zs with
    | nil => cases h
    | cons x0 zs =>
      obtain ⟨y, hy, rfl⟩ := Option.map_eq_some_iff.1 h
      exact ⟨hQ x0 _ _ _ hy, rfl⟩
  have hit : iter (itF p q (k + 1)) BIG (.func (.yield l) ⟨[]⟩ ⟨[]⟩ :: xs) s1 = some (b, s2) := by
    rw [itF_par (pu := pu) (qu := qu) (fun _ _ => rfl) (fun _ _ => rfl)]
    exact h2
  refine it_loop (n := BIG) (φb := φ) (sb := s) (wb := w) hC hm d T d1 dX d2 dZ d4 hID hp hq (l := l) (b := b) (s2 := s2) (s5 := s5) (Tt := Tt) ?_ hyield (fun _ => htl _) ?_ i1.step rfl hh hit
  · intro hb φ' a' w' st hd
    show (if d.i0 = d.i0 then bodyPost P gn R .normal a' w' else _)
    rw [if_pos rfl]
    exact ⟨hd, _, hres _ _, hdone hb φ' w' _ st⟩
  · intro hb φ'' w φ3 a3 w3 hT hrel st hd
    exact ⟨hd, _, hres _ _, hret hb φ'' w φ3 _ w3 hT hrel st⟩

theorem range_ok (hC : CtxOk P C) (hC2 : CtxOk P C2) (hm : P.follows .mixedOrders = true) {f : FuncId} {fn : Func} (c : RnC) (hf : P.funcs[f]? = some fn) (hb : fn.body = some c.all) (hn : fn.ntmps = an.N) (hD : an.D = []) (hn2 : ∀ D, (an2 D).N = an.N ∧ (an2 D).D = D)
    (e1 : drawsOk an c.H1 = true) (e2 : drawsOk an c.H2 = true) (e3 : drawsOk an c.H3 = true) (eE : ∀ D, drawsOk (an2 D) c.E = true) (hdf : ∀ o ∈ c.st.toList, ∀ x, o.op ≠ .defer x)
    {g : FuncId} {gn : Func} (d : ItC) (hg : P.funcs[g]? = some gn) (hgb : gn.body = some d.all) (hgn : gn.ntmps = anI.N) (hgr : gn.results = #[]) (hID : anI.D = []) (hcan : callOk P g = true)
    {ls ms : List Nat} {k : Nat} (T : ItT d anI ls ms (k + 1))
    (d0 : drawsOk anI d.R0 = true) (d1 : drawsOk anI d.R1 = true) (dX : drawsOk anI d.X = true) (d2 : drawsOk anI d.R2 = true) (dZ : drawsOk anI d.Z = true) (d4 : drawsOk anI d.R4 = true)
    {hu : List Value → St → Option (List Value × St)} {pu : List Value → St → Option (Nat × List Value × St)} {qu : List Value → St → Option (List Value × St)}
    (hH : ∀ x0 cs s r, hu cs s = some r → cs.length + 1 ≤ anI.N ∧ itH std P C2 anI d.R0 ls (x0 :: cs) s = some (x0 :: r.1, r.2))
    (hP : ∀ x0 ys s r, pu ys s = some r → itP std P C2 anI d.R1 d.X d.R2 d.ops d.A d.i0 ls ms (x0 :: ys) s = some (r.1, (if r.1 = 1 then [] else x0 :: r.2.1), r.2.2))
    (hQ : ∀ x0 zs s r, qu zs s = some r → itQ std P C2 anI d.ops d.b2 d.Z d.R4 ls ms T.t19 (x0 :: zs) s = some (x0 :: r.1, r.2))
    (htl : ∀ s, itT std P C2 anI d.ops d.b1 d.b2 d.Z T.t15 T.t18 s = some s)
    {h : List Value → St → Option (Bool × List Value × St)} {e st : List Value → St → Option (Value × St)} {ts zs : List Nat} {kf : Nat}
    (hkf : ts[kf]? = some c.t) (hkf1 : ∀ j : Nat, j < kf → ts[j]? ≠ some c.t) (hpt : c.p ∉ ts)
    (hh : ∀ args s r, h args s = some r → args.length ≤ an.N ∧ dfHead std P C an c.H1 c.H2 c.H3 ts fn.results.toList args s = some r)
    (he : ∀ D ys s r, e ys s = some r → rnE std P C (an2 D) c.E fn.results.toList ts zs ys s = some r)
    (hst : ∀ ys s r, st ys s = some r → rnS std P C an c.st fn.results.toList ts ys s = some r) :
    FnOk P f (.st (rnW h kf g hu pu qu k e st)) := by
  intro φ s w args args' r s' hr ha hev
  unfold rnW at hev
  obtain ⟨r1, he1, hev⟩ := Option.bind_eq_some_iff.1 hev
  obtain ⟨hlen, he1⟩ := hh _ _ _ he1
  unfold dfHead at he1
  obtain ⟨e0, he1, henv⟩ := argsK_use he1
  have hinv := inv_enter hr ha hn hlen hD henv
  refine callsIn_wide.1 (callsIn_of_wp_marks (F := Fence.wide) (n := 0) hf hb trivial ?_)
  have hsz : (⟨args'⟩ : Array Value).size = args'.length := by simp
  rw [hsz]
  unfold RnC.all
  refine wpIn_seq (wpIn_wide.2 (evC_sound hC hm c.H1 e1 hinv he1 (fun φ' ψ' s' fr' a' w' x u _ _ hk => by cases hk) ?_))
  intro x1 φ1 ψ1 s1 fr1 a1 w1 hpe i1 hk
  cases x1 with
  | exit i => cases hk
  | ret => cases hk
  | pan v => cases hpe
  | normal =>
  refine wpIn_seq (wpIn_wide.2 (evC_sound hC hm c.H2 e2 i1 hk (fun φ' ψ' s' fr' a' w' x u _ _ hk => by cases hk) ?_))
  intro x2 φ2 ψ2 s2 fr2 a2 w2 hpe i2 hk
  cases x2 with
  | exit i => cases hk
  | pan v => cases hpe
  | ret =>
    obtain ⟨vs, us, h3, h4, h5⟩ := resK_spec i2 _ _ hk
    simp only [Option.some.injEq] at h3
    subst h3
    simp only [Option.some.injEq, Prod.mk.injEq] at hev
    obtain ⟨rfl, rfl⟩ := hev
    show LeavesInM Fence.wide 0 P fn a2.tmps _ a2.defers .returning w2
    rw [i2.defers, hD]
    exact ⟨_, results_run h5, φ2, i2.step, oneV_rel h4⟩
  | normal =>
  refine wpIn_seq (wpIn_seq (wpIn_wide.2 (evC_sound hC hm c.H3 e3 i2 hk (fun φ' ψ' s' fr' a' w' x u _ _ hk => by cases hk) ?_)))
  intro x3 φ3 ψ3 s3 fr3 a3 w3 hpe i3 hk
  cases x3 with
  | exit i => cases hk
  | pan v => cases hpe
  | ret => cases hk
  | normal =>
  simp only at hk
  cases hys : getV fr3 ts with
  | none => rw [hys] at hk; cases hk
  | some ys =>
  rw [hys] at hk
  cases hk
  have h3 := Here.of i3 hys
  have st3 := i3.step
  have hd3 : a3.defers = [] := by rw [i3.defers, hD]
  clear i1 i2 i3 he1 henv hinv
  have hev2 : (match ys[kf]? with
      | some (.func (.func f) ⟨[]⟩ ⟨cs⟩) => if f = g then (hu cs s3).bind fun x => (iter (itF pu qu k) BIG x.1 x.2).bind fun y => match y.1 with
          | 1 => e ys y.2
          | 2 => st ys y.2
          | _ => none
        else none
      | _ => none) = some (r, s') := hev
  clear hev
  obtain ⟨cs, hyk, hev3⟩ : ∃ cs, ys[kf]? = some (.func (.func g) ⟨[]⟩ ⟨cs⟩) ∧ ((hu cs s3).bind fun x => (iter (itF pu qu k) BIG x.1 x.2).bind fun y => match y.1 with
          | 1 => e ys y.2
          | 2 => st ys y.2
          | _ => none) = some (r, s') := by
    split at hev2
    · rename_i f' cs hyk
      split at hev2
      · rename_i hfg
        subst hfg
        exact ⟨cs, hyk, hev2⟩
      · cases hev2
    · cases hev2
  clear hev2
  obtain ⟨⟨xs, s4⟩, hu1, hev4⟩ := Option.bind_eq_some_iff.1 hev3
  obtain ⟨⟨b, s5⟩, hit, hev⟩ := Option.bind_eq_some_iff.1 hev4
  simp only at hit hev
  have ekf : lookE (frV ts ys) c.t = some (.val (.func (.func g) ⟨[]⟩ ⟨cs⟩)) := frV_get hkf hkf1 hyk
  obtain ⟨k1, k2⟩ := h3.env ekf
  obtain ⟨cs', k3, hcs⟩ : ∃ cs', a3.tmps.getD c.t undef = .func (.func g) #[] ⟨cs'⟩ ∧ VsRel φ3 cs cs' := by
    generalize a3.tmps.getD c.t undef = u at k2
    cases k2 with
    | func fn g1 g2 => cases g1; exact ⟨_, rfl, g2⟩
  refine wpIn_block (wpIn_rangeFunc fun fn' _ => ?_)
  obtain ⟨rec, hrec⟩ : ∃ rec : LoopState → Option Code → Loop, rec = fun st pe => { state := st, pending := pe, fn := fn', tmps := a3.tmps, params := #[c.p], assign := .skip, body := .block c.j1 (.seq (.region c.r4 c.st false) .ret), defers := w3.heap.size } := ⟨_, rfl⟩
  obtain ⟨w4, hw4⟩ : ∃ w4, (w3.alloc (.deferred (some []))).alloc (.loop (rec .ready none)) = w4 := ⟨_, rfl⟩
  have hL4 : w4.heap[w3.heap.size + 1]? = some (.loop (rec .ready none)) := by
    rw [← hw4]; have := World.alloc_heap_new (w3.alloc (.deferred (some []))) (.loop (rec .ready none)); rwa [World.size_alloc] at this
  have hK4 : w4.heap[w3.heap.size]? = some (.deferred (some [])) := by
    rw [← hw4]; exact (Below.heap_alloc _ _ _ (by simp)).trans (World.alloc_heap_new w3 _)
  have hb4 : Below w3.heap.size w3 w4 := by rw [← hw4]; exact ((Below.refl _ w3).alloc (Nat.le_refl _) _).alloc (by simp) _
  have st4 : Step φ3 s3 w3 φ3 s3 w4 := .of_below h3.step.rel hb4 (.of_below hb4)
  have hsz3 : w.heap.size ≤ w3.heap.size := st3.frm.size
  refine ⟨w3.heap.size + 1, [{ target := .collected w3.heap.size, args := #[] }], w4, { target := .fn (.func g) ⟨cs'⟩, args := #[.func (.yield (w3.heap.size + 1)) #[] #[]] }, w4, g,
    #[.func (.yield (w3.heap.size + 1)) #[] #[]] ++ ⟨cs'⟩, w4, ?_, ?_, fun _ _ => trivial, ?_, wide_depth, ?_⟩
  · rw [← hw4, hrec]; exact run_enterLoop_outer _ _ _ _ _
  · simp [resolve, Act.eval, k3, Deferred.ofValue]
  · simp [invoke, run_callFunc hcan]
  rw [hd3, List.append_nil]
  refine callsIn_wide.2 (it_call hC2 hm d hg hgb hgn hgr hID T d0 d1 dX d2 dZ d4 hH hP hQ htl (l := w3.heap.size + 1) (b := b) (s2 := s5) (s5 := s')
    (Tt := fun φ'' w'' => Step φ s w φ'' s' w'' ∧ φ3.le φ'' ∧ w''.heap[w3.heap.size + 1]? = some (.loop (rec .done (some .ret))) ∧ w''.heap[w3.heap.size]? = some (.deferred (some [])) ∧ resK std P ⟨frV ts ys, [], []⟩ s' fn.results.toList (fun l => some (oneV l, s')) = some (r, s'))
    st4.rel hcs hu1 hit ?_ ?_ ?_)
  · -- all has come
    intro hb1 φ5 w5 v st5
    subst hb1
    have hL5 := st5.kept st4.rel hL4 rfl
    have hK5 := st5.kept st4.rel hK4 rfl
    have hL5' : w5.heap[w3.heap.size + 1]? = some (.loop (rec .ready none)) := hL5
    refine ⟨none, _, by have := run_endLoop (P := P) hL5' (by rw [hrec]; simp); rw [hrec] at this; exact this, ?_⟩
    show c.E.wpIn Fence.wide 0 P _ _ _
    have stb : Step φ s w φ5 s5 w5 := (st3.trans st4).trans st5
    obtain ⟨w6, hw6⟩ : ∃ w6, w6 = w5.putObj (w3.heap.size + 1) (.loop { rec .ready none with state := .exhausted }) := ⟨_, rfl⟩
    have st6 : Step φ s w φ5 s5 w6 := by rw [hw6]; exact stb.oth (by omega) hL5' rfl _
    have hK6 : w6.heap[w3.heap.size]? = some (.deferred (some [])) := by rw [hw6]; exact (World.putObj_heap_other (by omega)).trans hK5
    rw [hrec] at hw6
    simp only at hw6 ⊢
    rw [← hw6]
    have h6 : Here (an2 [{ target := .collected w3.heap.size, args := #[] }]) φ5 s5 w6 (frV ts ys) { a3 with defers := [{ target := .collected w3.heap.size, args := #[] }] } :=
      h3.to (hn2 _).1 (hn2 _).2 st6.rel ((st4.ext).trans st5.ext)
    have hE := he [{ target := .collected w3.heap.size, args := #[] }] _ _ _ hev
    unfold rnE at hE
    refine wpIn_wide.2 (evC_sound hC hm c.E (eE _) h6 hE (fun φ' ψ' s' fr' a' w' x u _ _ hk => by cases hk) ?_)
    intro x7 φ7 ψ7 s7 fr7 a7 w7 hpe i7 hk
    cases x7 with
    | exit i => cases hk
    | pan v => cases hpe
    | normal => cases hk
    | ret =>
    simp only at hk
    cases hz : getV fr7 zs with
    | none => rw [hz] at hk; cases hk
    | some zv =>
    rw [hz] at hk
    have hK7 := i7.step.kept st6.rel hK6 rfl
    have h7 := Here.of i7 hz
    have hr8 : Rel φ7 s7 (w7.putObj w3.heap.size (.deferred none)) := i7.step.rel.oth hK7 rfl _
    have h8 := h7.to (an' := an2 a7.defers) (by rw [(hn2 _).1, (hn2 _).1]) (ds := a7.defers) (hn2 _).2 hr8 (.refl _)
    obtain ⟨vs, us, g3, g4, g5⟩ := resK_spec h8 _ _ hk
    simp only [Option.some.injEq, Prod.mk.injEq] at g3
    obtain ⟨rfl, rfl⟩ := g3
    have st8 : Step φ s w φ7 s7 (w7.putObj w3.heap.size (.deferred none)) := (st6.trans i7.step).oth hsz3 hK7 rfl _
    show LeavesInM Fence.wide 0 P fn a7.tmps _ a7.defers .returning w7
    rw [i7.defers, (hn2 _).2]
    exact ⟨by simp, .inl ⟨_, _, rfl, run_takeDeferred hK7, ⟨_, results_run g5, φ7, st8, oneV_rel g4⟩⟩⟩
  · -- a round
    intro hb2 φ5 w5 v st5
    subst hb2
    have hL5 : w5.heap[w3.heap.size + 1]? = some (.loop (rec .ready none)) := st5.kept st4.rel hL4 rfl
    have hK5 := st5.kept st4.rel hK4 rfl
    have stb : Step φ s w φ5 s5 w5 := (st3.trans st4).trans st5
    refine ⟨fn', (a3.put (some c.p) v).tmps, .skip, .block c.j1 (.seq (.region c.r4 c.st false) .ret), by have := run_yield (P := P) (args := #[v]) hL5 (by rw [hrec]; simp); rw [hrec] at this; rw [this]; simp [Act.put], ?_⟩
    refine roundIn_of_wpIn trivial (wpIn_skip ⟨_, run_beginRound hL5 (by rw [hrec]), ?_⟩)
    obtain ⟨w6, hw6⟩ : ∃ w6, w6 = w5.putObj (w3.heap.size + 1) (.loop { rec .ready none with state := .busy }) := ⟨_, rfl⟩
    rw [← hw6]
    have hl5 : w3.heap.size + 1 < w5.heap.size := (Array.getElem?_eq_some_iff.1 hL5).1
    have st6 : Step φ s w φ5 s5 w6 := by rw [hw6]; exact stb.oth (by omega) hL5 rfl _
    have hL6 : w6.heap[w3.heap.size + 1]? = some (.loop { rec .ready none with state := .busy }) := by rw [hw6]; exact World.putObj_heap_same hl5
    have hK6 : w6.heap[w3.heap.size]? = some (.deferred (some [])) := by rw [hw6]; exact (World.putObj_heap_other (by omega)).trans hK5
    have h6 : Here an φ5 s5 w6 (frV ts ys) { (a3.put (some c.p) v) with defers := [] } :=
      (h3.skip (t := c.p) (u := v) (lookE_frV hpt)).to rfl hD st6.rel ((st4.ext).trans st5.ext)
    have hS := hst _ _ _ hev
    unfold rnS at hS
    refine wpIn_block (wpIn_seq (wpIn_region_list (list_round (Q' := fun e a w => e = .normal ∧ ∃ φ7 ψ7 s7 fr7, InvA an φ5 s5 w6 φ7 ψ7 s7 fr7 a w ∧ resK std P ⟨frV ts ys, [], []⟩ s7 fn.results.toList (fun l => some (oneV l, s7)) = some (r, s')) (fun e a w h => h.1) c.st.toList hdf (evOps_sound hC falls_none c.st.toList (h6.noG) hS ?_) ?_)))
    · intro φ7 ψ7 s7 fr7 a7 w7 i7 hk
      exact ⟨rfl, φ7, ψ7, s7, fr7, i7, hk⟩
    rintro a7 w7 ⟨_, φ7, ψ7, s7, fr7, i7, hk⟩
    have hL7 := i7.step.kept st6.rel hL6 rfl
    have hK7 := i7.step.kept st6.rel hK6 rfl
    have hs7 : s7 = s' := by
      have h7 := (h6.to (an' := an) rfl (ds := []) hD i7.step.rel i7.step.ext)
      obtain ⟨vs, us, g3, _, _⟩ := resK_spec h7 _ _ hk
      simp only [Option.some.injEq, Prod.mk.injEq] at g3
      exact g3.2
    subst hs7
    have st7 : Step φ s w φ7 s7 w7 := st6.trans i7.step
    refine wpIn_ret ?_
    have hl7 : w3.heap.size + 1 < w7.heap.size := (Array.getElem?_eq_some_iff.1 hL7).1
    refine ⟨_, _, run_endRound (P := P) (some .ret) hL7, rfl, φ7, i7.step.ext, ?_, ?_, ?_, ?_, ?_, hk⟩
    · exact st7.rel.oth hL7 rfl _
    · exact st7.oth (by omega) hL7 rfl _
    · exact ((st4.ext).trans st5.ext).trans i7.step.ext
    · rw [World.putObj_heap_same hl7, hrec]; rfl
    · exact (World.putObj_heap_other (by omega)).trans hK7
  · -- behind it
    intro hb2 φ5 w5 φ6 v w6 hT hrel st6
    obtain ⟨t1, t2, t3, t4, t5⟩ := hT
    have hL6 := st6.kept hrel t3 rfl
    have hK6 := st6.kept hrel t4 rfl
    refine ⟨some .ret, _, by have := run_endLoop (P := P) hL6 (by rw [hrec]; simp); rw [hrec] at this; exact this, ?_⟩
    refine wpIn_ret ?_
    obtain ⟨w7, hw7⟩ : ∃ w7, w7 = w6.putObj (w3.heap.size + 1) (.loop { rec .done (some .ret) with state := .exhausted }) := ⟨_, rfl⟩
    have st7 : Step φ s w φ6 s' w7 := by rw [hw7]; exact (t1.trans st6).oth (by omega) hL6 rfl _
    have hK7 : w7.heap[w3.heap.size]? = some (.deferred (some [])) := by rw [hw7]; exact (World.putObj_heap_other (by omega)).trans hK6
    rw [hrec] at hw7
    simp only at hw7 ⊢
    rw [← hw7]
    have st8 : Step φ s w φ6 s' (w7.putObj w3.heap.size (.deferred none)) := st7.oth hsz3 hK7 rfl _
    have h8 : Here an φ6 s' (w7.putObj w3.heap.size (.deferred none)) (frV ts ys) { a3 with defers := [] } := h3.to rfl hD st8.rel (t2.trans st6.ext)
    obtain ⟨vs, us, g3, g4, g5⟩ := resK_spec h8 _ _ t5
    simp only [Option.some.injEq, Prod.mk.injEq] at g3
    obtain ⟨rfl, _⟩ := g3
    show LeavesInM Fence.wide 0 P fn a3.tmps _ [{ target := .collected w3.heap.size, args := #[] }] .returning w7
    exact ⟨by simp, .inl ⟨_, _, rfl, run_takeDeferred hK7, ⟨_, results_run g5, φ6, st8, oneV_rel g4⟩⟩⟩
end
end Go.Sim
