/-
  Readings as functions of the heap; a closed call known as a reading.
-/
import Derived.Test.YteiagjbjokldgaaSymA
set_option linter.unusedSimpArgs false
set_option linter.unusedVariables false
namespace Go.Sim
open Go.RowKit (Below)

/-- A reading, seen as a function that hands the heap on. -/
def asSt (g : List Value → St → Option Value) (args : List Value) (s : St) : Option (Value × St) := (g args s).map fun v => (v, s)

theorem FnOk.rd_st {P : Program} {f : FuncId} {g : List Value → St → Option Value} (h : FnOk P f (.rd g)) : FnOk P f (.st (asSt g)) := by
  intro φ s w args args' r s' hr ha hg
  unfold asSt at hg
  rw [Option.map_eq_some_iff] at hg
  obtain ⟨v, h1, h2⟩ := hg
  cases h2
  refine (h φ s w args args' _ hr ha h1).mono fun e w' he => ?_
  cases e with
  | returned u => exact ⟨φ, Step.of_below hr he.1.1 he.1.2, he.2⟩
  | _ => exact he.elim

theorem FnOk.closedR {P : Program} {f : FuncId} {g : List Value → St → Option Value} {v : Value} (h : FnOk P f (.rd g)) (he : g [] ⟨[], 0⟩ = some v) (hp : plainV v = true) : FnOk P f (.rd (closedW v)) := by
  intro φ s w args args' r hr ha hg
  unfold closedW at hg
  split at hg
  · cases hg
    cases ha
    refine (h (fun _ => none) ⟨[], 0⟩ w [] [] _ (rel_nil w) .nil he).mono fun e w' he => ?_
    cases e with
    | returned u =>
      refine ⟨he.1, ?_⟩
      rw [VRel.plain_eq he.2 hp]
      exact VRel.of_plain φ hp
    | _ => exact he.elim
  · simp at hg

theorem asSt_of {g : List Value → St → Option Value} {args : List Value} {s : St} {v : Value} (h : g args s = some v) : ∃ s', asSt g args s = some (v, s') := ⟨s, by simp [asSt, h]⟩

/-! ### Slices of one's own -/

/-- A slice that is nil, or all of a row of its own from number `n0` on, of which no room is known. -/
def Own (n0 : Nat) (s : St) (sz : Nat) (v : Value) (rows : List (List Value)) : Prop :=
  (v = .slice none 0 0 ∧ rows = []) ∨ ∃ b, n0 ≤ b ∧ v = .slice (some ⟨b, 0, some 0⟩) rows.length 1 ∧ s.get b = some (.row sz rows false)

theorem Own.nil {n0 : Nat} {s : St} {sz : Nat} : Own n0 s sz (.slice none 0 0) [] := .inl ⟨rfl, rfl⟩
theorem Own.len {n0 : Nat} {s : St} {sz : Nat} {v : Value} {rows : List (List Value)} (h : Own n0 s sz v rows) : lenL v = some (.int .i64 rows.length) := by
  rcases h with ⟨rfl, rfl⟩ | ⟨b, _, rfl, _⟩ <;> rfl
theorem Own.app {s0 s : St} {sz by_ : Nat} {v x : Value} {rows news : List (List Value)} (h : Own s0.n s sz v rows) (hm : More s0 s) (hn : lenV x = some news.length) (hr : rowsOf s sz news.length x = some news)
    (hb : (rows.length + news.length) * by_ ≤ 140737488355328) (hle : rows.length + news.length ≤ 9223372036854775807) :
    ∃ v' s', Sim.app s sz by_ v x = some (v', s') ∧ More s0 s' ∧ Own s0.n s' sz v' (rows ++ news) ∧ (∀ c, c < s.n → (∀ len e, v ≠ .slice (some ⟨c, 0, some 0⟩) len e) → s'.get c = s.get c) := by
  rcases h with ⟨rfl, rfl⟩ | ⟨b, hb0, rfl, hg⟩
  · by_cases h0 : news.length = 0
    · have : news = [] := List.eq_nil_of_length_eq_zero h0
      subst this
      exact ⟨_, s, app_nil0 hn hr, hm, .inl ⟨rfl, rfl⟩, fun c hc _ => rfl⟩
    · refine ⟨_, _, app_nil hn hr (by omega) (by simpa using hb) (by simpa using hle), hm.trans .new, .inr ⟨s.n, hm.n, rfl, ?_⟩, fun c hc _ => get_new_ne (by omega)⟩
      exact get_new_same
  · by_cases h0 : news.length = 0
    · have : news = [] := List.eq_nil_of_length_eq_zero h0
      subst this
      refine ⟨.slice (some ⟨b, 0, some 0⟩) rows.length 1, s, ?_, hm, .inr ⟨b, hb0, by simp, by simpa using hg⟩, fun c hc _ => rfl⟩
      simp only [List.length_nil] at hn hr hb hle
      simp only [Sim.app, hn, hr, hg]
      rw [if_pos ⟨trivial, by omega⟩, if_pos ⟨hb, hle⟩]
      simp
    · refine ⟨_, _, app_own hn hr hg (Nat.le_refl _) (by omega) hb hle, (hm.del hb0).trans .new, .inr ⟨s.n, hm.n, by simp, ?_⟩, fun c hc hne => ?_⟩
      · rw [List.take_length]; exact get_new_same (s := s.del b)
      · rw [get_new_ne (by rw [del_n]; omega), get_del_ne]
        rintro rfl
        exact hne _ _ rfl
theorem rowsOf_one {s : St} {sz : Nat} {r : List Value} {e : Nat} : rowsOf (s.new (.row sz [r] false)) sz 1 (.slice (some ⟨s.n, 0, some 0⟩) 1 e) = some [r] := by
  rw [rowsOf_row get_new_same (Nat.le_refl _) (by simp)]; rfl

/-! ### New variables and stores, the heap left unnamed -/

theorem alv_spec {s : St} {v : Value} {cs : List Value} (hv : bx v = some cs) : ∃ s', alv s v = some (.pointer (some ⟨s.n, 0, some 0⟩), s') ∧ s'.get s.n = some (.row cs.length [cs] false) ∧ More s s' ∧ s'.n = s.n + 1 :=
  ⟨s.new (.row cs.length [cs] false), by simp only [alv, hv, bds]; rfl, get_new_same, .new, rfl⟩
theorem stv_spec {s : St} {b i j n sz : Nat} {v : Value} {cs r : List Value} {rows : List (List Value)} (h : s.get b = some (.row sz rows false)) (hv : bx v = some cs) (hn : cs.length = n) (hr : rows[i]? = some r) (hj : j + n ≤ r.length) :
    ∃ s', stv s n (.pointer (some ⟨b, i, some j⟩)) v = some s' ∧ s'.get b = some (.row sz (rows.set i (spl r j cs)) false) ∧ (∀ c, c ≠ b → s'.get c = s.get c) ∧ s'.n = s.n ∧ (Fresh s → Fresh s') := by
  refine ⟨s.put b (.row sz (rows.set i (spl r j cs)) false), ?_, get_put_same h, fun c hc => get_put_ne hc, rfl, fun f => f.put⟩
  rw [stv_row h, hv, bds, if_pos hn, hr, bds, if_pos (by omega)]

/-! ### One row turned -/

/-- `s'` is `s` but for row `b`. -/
def But (b : Nat) (s s' : St) : Prop := (∀ x, x ≠ b → s'.get x = s.get x) ∧ s'.n = s.n ∧ (Fresh s → Fresh s')
theorem But.refl (b : Nat) (s : St) : But b s s := ⟨fun _ _ => rfl, rfl, id⟩
theorem But.trans {b : Nat} {s t u : St} (h : But b s t) (k : But b t u) : But b s u :=
  ⟨fun x hx => (k.1 x hx).trans (h.1 x hx), k.2.1.trans h.2.1, fun f => k.2.2 (h.2.2 f)⟩
theorem But.put {b : Nat} {s : St} {x : Blk} : But b s (s.put b x) := ⟨fun _ hx => get_put_ne hx, rfl, fun f => f.put⟩
theorem putH_putH : ∀ (h : List (Nat × Blk)) (b : Nat) (x y : Blk), putH (putH h b x) b y = putH h b y
  | [], _, _, _ => rfl
  | (i, k) :: r, b, x, y => by
    simp only [putH]
    split
    · rename_i e; simp only [putH, if_pos e]
    · rename_i e; simp only [putH, if_neg e, putH_putH r b x y]
theorem put_put {s : St} {b : Nat} {x y : Blk} : (s.put b x).put b y = s.put b y := by
  simp only [St.put, putH_putH]
theorem ldc_put {s : St} {b i j sz : Nat} {k : Blk} {rows : List (List Value)} {ro : Bool} (h : s.get b = some k) :
    ldc (s.put b (.row sz rows ro)) (.pointer (some ⟨b, i, some j⟩)) = (rows[i]?).bind fun r => r[j]? := ldc_row (get_put_same h)
theorem lda_put {s : St} {b i j n sz : Nat} {k : Blk} {rows : List (List Value)} {ro : Bool} (h : s.get b = some k) :
    lda (s.put b (.row sz rows ro)) n (.pointer (some ⟨b, i, some j⟩)) = (rows[i]?).bind fun r => if j + n ≤ r.length then some (.agg ⟨(r.drop j).take n⟩) else none := lda_row (get_put_same h)
theorem stv_put {s : St} {b i j n sz : Nat} {v : Value} {k : Blk} {rows : List (List Value)} (h : s.get b = some k) :
    stv (s.put b (.row sz rows false)) n (.pointer (some ⟨b, i, some j⟩)) v = (bx v).bind fun cs => if cs.length = n then (rows[i]?).bind fun r =>
      if j + cs.length ≤ r.length then some (s.put b (.row sz (rows.set i (spl r j cs)) false)) else none else none := by
  rw [stv_row (get_put_same h)]
  simp only [put_put]

/-! ### What lies below a number is kept -/

structure Keep (n0 : Nat) (s s' : St) : Prop where
  n : s.n ≤ s'.n
  old : ∀ b, b < n0 → s'.get b = s.get b
  fresh : Fresh s → Fresh s'
theorem Keep.refl (n0 : Nat) (s : St) : Keep n0 s s := ⟨Nat.le_refl _, fun _ _ => rfl, id⟩
theorem Keep.trans {n0 : Nat} {a b c : St} (h : Keep n0 a b) (k : Keep n0 b c) : Keep n0 a c :=
  ⟨Nat.le_trans h.n k.n, fun i hi => (k.old i hi).trans (h.old i hi), fun f => k.fresh (h.fresh f)⟩
theorem More.keep {s s' : St} (h : More s s') {n0 : Nat} (hn : n0 ≤ s.n) : Keep n0 s s' := ⟨h.n, fun b hb => h.old b (by omega), h.fresh⟩
theorem Keep.new {n0 : Nat} {s : St} (hn : n0 ≤ s.n) {x : Blk} : Keep n0 s (s.new x) := More.new.keep hn
theorem Own.new {n0 : Nat} {s : St} {sz : Nat} {v : Value} {rows : List (List Value)} {x : Blk} (h : Own n0 s sz v rows) (f : Fresh s) : Own n0 (s.new x) sz v rows := by
  rcases h with ⟨rfl, h0⟩ | ⟨q, hq, rfl, hg⟩
  · exact .inl ⟨rfl, h0⟩
  · exact .inr ⟨q, hq, rfl, by rw [get_new_ne (by have := f.lt hg; omega)]; exact hg⟩
theorem Own.but {n0 : Nat} {s s' : St} {sz b : Nat} {v : Value} {rows : List (List Value)} (h : Own n0 s sz v rows) (hb : But b s s') (hn : b < n0) : Own n0 s' sz v rows := by
  rcases h with ⟨rfl, h0⟩ | ⟨q, hq, rfl, hg⟩
  · exact .inl ⟨rfl, h0⟩
  · exact .inr ⟨q, hq, rfl, by rw [hb.1 q (by omega)]; exact hg⟩
theorem Own.app2 {n0 : Nat} {s : St} {sz by_ : Nat} {v x : Value} {rows news : List (List Value)} (h : Own n0 s sz v rows) (hn0 : n0 ≤ s.n) (hn : lenV x = some news.length) (hr : rowsOf s sz news.length x = some news)
    (hb : (rows.length + news.length) * by_ ≤ 140737488355328) (hle : rows.length + news.length ≤ 9223372036854775807) :
    ∃ v' s', Sim.app s sz by_ v x = some (v', s') ∧ Keep n0 s s' ∧ Own n0 s' sz v' (rows ++ news) := by
  rcases h with ⟨rfl, rfl⟩ | ⟨b, hb0, rfl, hg⟩
  · by_cases h0 : news.length = 0
    · have : news = [] := List.eq_nil_of_length_eq_zero h0
      subst this
      exact ⟨_, s, app_nil0 hn hr, .refl _ _, .inl ⟨rfl, rfl⟩⟩
    · exact ⟨_, _, app_nil hn hr (by omega) (by simpa using hb) (by simpa using hle), .new hn0, .inr ⟨s.n, hn0, rfl, get_new_same⟩⟩
  · by_cases h0 : news.length = 0
    · have : news = [] := List.eq_nil_of_length_eq_zero h0
      subst this
      refine ⟨.slice (some ⟨b, 0, some 0⟩) rows.length 1, s, ?_, .refl _ _, .inr ⟨b, hb0, by simp, by simpa using hg⟩⟩
      simp only [List.length_nil] at hn hr hb hle
      simp only [Sim.app, hn, hr, hg]
      rw [if_pos ⟨trivial, by omega⟩, if_pos ⟨hb, hle⟩]
      simp
    · refine ⟨_, _, app_own hn hr hg (Nat.le_refl _) (by omega) hb hle, ⟨by rw [new_n, del_n]; omega, fun c hc => ?_, fun f => f.del.new⟩, .inr ⟨s.n, hn0, by simp, ?_⟩⟩
      · rw [get_new_ne (by rw [del_n]; omega), get_del_ne (by omega)]
      · rw [List.take_length]; exact get_new_same (s := s.del b)
theorem Own.idx {n0 : Nat} {s : St} {sz : Nat} {v : Value} {rows : List (List Value)} (h : Own n0 s sz v rows) {j : Nat} {r : List Value} (hj : rows[j]? = some r) :
    ∃ b ro, Sim.idx s sz v (.int .i64 (j : Int)) = some (.pointer (some ⟨b, j, some 0⟩)) ∧ s.get b = some (.row sz rows ro) := by
  rcases h with ⟨rfl, rfl⟩ | ⟨q, hq, rfl, hg⟩
  · simp at hj
  · have hlt : j < rows.length := (List.getElem?_eq_some_iff.1 hj).1
    refine ⟨q, false, ?_, hg⟩
    have := idx_row (k := .i64) (i := 0) (n := (j : Int)) (len := rows.length) (e := 1) hg (by omega) (by omega)
    rwa [Int.toNat_natCast, Nat.zero_add] at this
end Go.Sim
