/-
  A closed call that makes new memory: reckoned once, at the empty memory, and moved behind any other.
-/
import Derived.Test.YtkkgegocliobpaaSimVa
set_option linter.unusedSimpArgs false
set_option linter.unusedVariables false
namespace Go.Sim
open Go.RowKit (Below)

mutual
/-- A value, its blocks' numbers moved. -/
def shV (n : Nat → Nat) : Value → Value
  | .pointer (some ⟨b, i, j⟩) => .pointer (some ⟨n b, i, j⟩)
  | .slice (some ⟨b, i, j⟩) l c => .slice (some ⟨n b, i, j⟩) l c
  | .map (some b) => .map (some (n b))
  | .agg ⟨l⟩ => .agg ⟨shVs n l⟩
  | .tuple ⟨l⟩ => .tuple ⟨shVs n l⟩
  | .iface t v => .iface t (shV n v)
  | .func f ⟨a⟩ ⟨c⟩ => .func f ⟨shVs n a⟩ ⟨shVs n c⟩
  | v => v
def shVs (n : Nat → Nat) : List Value → List Value
  | [] => []
  | v :: r => shV n v :: shVs n r
end

def shRows (n : Nat → Nat) : List (List Value) → List (List Value)
  | [] => []
  | r :: q => shVs n r :: shRows n q

def shEs (n : Nat → Nat) : List (Value × Value) → List (Value × Value)
  | [] => []
  | (k, v) :: q => (k, shV n v) :: shEs n q

def shB (n : Nat → Nat) : Blk → Blk
  | .row sz rows ro => .row sz (shRows n rows) ro
  | .map es ro => .map (shEs n es) ro

def shH (n : Nat → Nat) : List (Nat × Blk) → List (Nat × Blk) → List (Nat × Blk)
  | [], h => h
  | (i, k) :: r, h => (n i, shB n k) :: shH n r h

/-- What a closed call answers, and the memory that it makes, behind another. -/
def movedW (m : Option (Value × St)) : List Value → St → Option (Value × St)
  | [], s => match m with
    | some (v, s0) => some (shV (s.n + ·) v, ⟨shH (s.n + ·) s0.h s.h, s.n + s0.n⟩)
    | none => none
  | _, _ => none

theorem shVs_length {n : Nat → Nat} : ∀ {l : List Value}, (shVs n l).length = l.length
  | [] => rfl
  | v :: l => by simp [shVs, shVs_length (l := l)]

theorem oneC_sh {n : Nat → Nat} {v : Value} : oneC (shV n v) = oneC v := by
  cases v with
  | pointer a => cases a with
    | none => rfl
    | some a => obtain ⟨_, _, _⟩ := a; rfl
  | slice a _ _ => cases a with
    | none => rfl
    | some a => obtain ⟨_, _, _⟩ := a; rfl
  | map a => cases a <;> rfl
  | agg l => obtain ⟨l⟩ := l; rfl
  | tuple l => obtain ⟨l⟩ := l; rfl
  | func f a c => obtain ⟨a⟩ := a; obtain ⟨c⟩ := c; rfl
  | _ => rfl

theorem oneCs_sh {n : Nat → Nat} : ∀ {l : List Value}, oneCs (shVs n l) = oneCs l
  | [] => rfl
  | v :: l => by simp [shVs, oneCs, oneC_sh, oneCs_sh (l := l)]

mutual
theorem VRel.sh {φ φ' : Phi} {n : Nat → Nat} (h : ∀ b l, φ b = some l → φ' (n b) = some l) : ∀ {v u : Value}, VRel φ v u → VRel φ' (shV n v) u
  | _, _, .bool b => .bool b
  | _, _, .int k n => .int k n
  | _, _, .str x => .str x
  | _, _, .pnil => .pnil
  | _, _, .ptr h1 => .ptr (h _ _ h1)
  | _, _, .snil => .snil
  | _, _, .slice h1 h2 h3 h4 h5 => .slice (h _ _ h1) h2 h3 h4 h5
  | _, _, .mnil => .mnil
  | _, _, .map h1 => .map (h _ _ h1)
  | _, _, .nilF => .nilF
  | _, _, .func fn h1 h2 => .func fn (VsRel.sh h h1) (VsRel.sh h h2)
  | _, _, .nilI => .nilI
  | _, _, .iface t h1 => .iface t (VRel.sh h h1)
  | _, _, .agg h1 h2 => .agg (VsRel.sh h h1) (by rw [oneCs_sh]; exact h2)
  | _, _, .tuple h1 => .tuple (VsRel.sh h h1)
theorem VsRel.sh {φ φ' : Phi} {n : Nat → Nat} (h : ∀ b l, φ b = some l → φ' (n b) = some l) : ∀ {l l' : List Value}, VsRel φ l l' → VsRel φ' (shVs n l) l'
  | _, _, .nil => .nil
  | _, _, .cons h1 t => .cons (VRel.sh h h1) (VsRel.sh h t)
end

mutual
theorem plain_sh {n : Nat → Nat} : ∀ {v : Value}, plainV v = true → shV n v = v
  | .bool _, _ => rfl
  | .int _ _, _ => rfl
  | .string _, _ => rfl
  | .pointer none, _ => rfl
  | .pointer (some ⟨_, _, _⟩), h => by simp [plainV] at h
  | .slice none _ _, _ => rfl
  | .slice (some ⟨_, _, _⟩) _ _, h => by simp [plainV] at h
  | .map none, _ => rfl
  | .map (some _), h => by simp [plainV] at h
  | .nilFunc, _ => rfl
  | .func fn ⟨a⟩ ⟨c⟩, h => by
    simp only [plainV, Bool.and_eq_true] at h
    simp only [shV, plains_sh h.1, plains_sh h.2]
  | .nilIface, _ => rfl
  | .iface t v, h => by
    simp only [plainV] at h
    simp only [shV, plain_sh h]
  | .agg ⟨l⟩, h => by
    simp only [plainV, Bool.and_eq_true] at h
    simp only [shV, plains_sh h.1]
  | .tuple ⟨l⟩, h => by
    simp only [plainV] at h
    simp only [shV, plains_sh h]
  | .float _ _, _ => rfl
  | .complex _ _ _, _ => rfl
  | .chan _, _ => rfl
theorem plains_sh {n : Nat → Nat} : ∀ {l : List Value}, plainVs l = true → shVs n l = l
  | [], _ => rfl
  | v :: l, h => by
    simp only [plainVs, Bool.and_eq_true] at h
    simp only [shVs, plain_sh h.1, plains_sh h.2]
end

theorem shVs_get {n : Nat → Nat} : ∀ {l : List Value} {i : Nat}, (shVs n l)[i]? = (l[i]?).map (shV n)
  | [], i => by simp [shVs]
  | v :: l, 0 => by simp [shVs]
  | v :: l, i + 1 => by simpa [shVs] using shVs_get (l := l) (i := i)

theorem shRows_length {n : Nat → Nat} : ∀ {l : List (List Value)}, (shRows n l).length = l.length
  | [] => rfl
  | v :: l => by simp [shRows, shRows_length (l := l)]

theorem shRows_get {n : Nat → Nat} : ∀ {l : List (List Value)} {i : Nat}, (shRows n l)[i]? = (l[i]?).map (shVs n)
  | [], i => by simp [shRows]
  | v :: l, 0 => by simp [shRows]
  | v :: l, i + 1 => by simpa [shRows] using shRows_get (l := l) (i := i)

theorem shEs_length {n : Nat → Nat} : ∀ {l : List (Value × Value)}, (shEs n l).length = l.length
  | [] => rfl
  | (k, v) :: l => by simp [shEs, shEs_length (l := l)]

theorem shEs_get {n : Nat → Nat} : ∀ {l : List (Value × Value)} {i : Nat}, (shEs n l)[i]? = (l[i]?).map fun q => (q.1, shV n q.2)
  | [], i => by simp [shEs]
  | (k, v) :: l, 0 => by simp [shEs]
  | (k, v) :: l, i + 1 => by simpa [shEs] using shEs_get (l := l) (i := i)

theorem BRel.sh {φ φ' : Phi} {n : Nat → Nat} {l : Loc} {k : Blk} {w : World} (h : ∀ b l, φ b = some l → φ' (n b) = some l) (hb : BRel φ l k w) : BRel φ' l (shB n k) w := by
  cases k with
  | row sz rows ro =>
    obtain ⟨g1, g2, cs, e, fz, g3, g4, g5, g6⟩ := hb
    refine ⟨g1, by rw [shRows_length]; exact g2, cs, e, fz, g3, g4, fun i r hr => ?_, g6⟩
    rw [shRows_get, Option.map_eq_some_iff] at hr
    obtain ⟨r0, hr0, rfl⟩ := hr
    obtain ⟨f1, f2, f3⟩ := g5 i r0 hr0
    refine ⟨by rw [shVs_length]; exact f1, by rw [oneCs_sh]; exact f2, fun j v hv => ?_⟩
    rw [shVs_get, Option.map_eq_some_iff] at hv
    obtain ⟨v0, hv0, rfl⟩ := hv
    obtain ⟨u, e1, e2⟩ := f3 j v0 hv0
    exact ⟨u, e1, e2.sh h⟩
  | map es ro =>
    obtain ⟨es', clk, g1, g2, g3⟩ := hb
    refine ⟨es', clk, g1, by rw [shEs_length]; exact g2, fun i k v hi => ?_⟩
    rw [shEs_get, Option.map_eq_some_iff] at hi
    obtain ⟨⟨k0, v0⟩, h0, hkv⟩ := hi
    simp only [Prod.mk.injEq] at hkv
    obtain ⟨rfl, rfl⟩ := hkv
    obtain ⟨f1, e, f2, f3, f4⟩ := g3 i k0 v0 h0
    exact ⟨f1, e, f2, f3, f4.sh h⟩

theorem getH_sh {n : Nat} {h : List (Nat × Blk)} (hh : ∀ b, n ≤ b → getH h b = none) : ∀ (h0 : List (Nat × Blk)) (b : Nat), getH (shH (n + ·) h0 h) b = if n ≤ b then (getH h0 (b - n)).map (shB (n + ·)) else getH h b
  | [], b => by
    simp only [shH, getH]
    split
    · rename_i hb; rw [hh b hb]; rfl
    · rfl
  | (i, k) :: r, b => by
    simp only [shH, getH]
    by_cases hb : b = n + i
    · subst hb
      simp
    · rw [if_neg hb, getH_sh hh r b]
      by_cases hn : n ≤ b
      · rw [if_pos hn, if_pos hn, if_neg (by omega)]
      · rw [if_neg hn, if_neg hn]

theorem rel_none (w : World) : Rel (fun _ => none) ⟨[], 0⟩ w := ⟨fun b l h => by simp at h, fun b k h => by simp [St.get, getH] at h, fun b c k k' l l' h => by simp [St.get, getH] at h⟩

theorem moved_calls {P : Program} {f : FuncId} {F : List Value → St → Option (Value × St)} (h : FnOk P f (.st F)) {φ : Phi} {s s0 : St} {w : World} {args args' : List Value} {v : Value} (hr : Rel φ s w) (ha : VsRel φ args args') (hp : plainVs args = true)
    (hF : F args ⟨[], 0⟩ = some (v, s0)) : Calls P f ⟨args'⟩ w fun
      | .returned u, w' => ∃ φ', Step φ s w φ' ⟨shH (s.n + ·) s0.h s.h, s.n + s0.n⟩ w' ∧ VRel φ' (shV (s.n + ·) v) u
      | _, _ => False := by
  refine (h (fun _ => none) ⟨[], 0⟩ w args args' _ _ (rel_none w) (by rw [VsRel.plain_eq ha hp]; exact VsRel.of_plain _ hp) hF).mono fun e w' he => ?_
  cases e with
  | returned u =>
    obtain ⟨φ1, hst, hv⟩ := he
    have hb : Below w.heap.size w w' := ⟨hst.frm.os, hst.frm.tape, hst.frm.output, hst.frm.size, fun c hc => hst.frm.old c hc fun b k l g1 g2 _ => by simp [St.get, getH] at g1⟩
    let φ' : Phi := fun b => if b < s.n then φ b else φ1 (b - s.n)
    have hold : ∀ b l, φ b = some l → φ' b = some l := fun b l hl => by
      have := hr.fresh b l hl
      simp only [φ', if_pos this, hl]
    have hnew : ∀ b l, φ1 b = some l → φ' (s.n + b) = some l := fun b l hl => by
      simp only [φ', if_neg (show ¬ s.n + b < s.n by omega), show s.n + b - s.n = b by omega, hl]
    have hnone : ∀ b, s.n ≤ b → getH s.h b = none := fun b hb => by
      cases hg : s.get b with
      | none => exact hg
      | some k =>
        obtain ⟨l, hl, _⟩ := hr.blk b k hg
        have := hr.fresh b l hl
        omega
    have hget : ∀ b k, (⟨shH (s.n + ·) s0.h s.h, s.n + s0.n⟩ : St).get b = some k → (b < s.n ∧ s.get b = some k) ∨ (s.n ≤ b ∧ ∃ k0, s0.get (b - s.n) = some k0 ∧ k = shB (s.n + ·) k0) := fun b k hk => by
      simp only [St.get, getH_sh hnone] at hk
      split at hk
      · rename_i hb
        rw [Option.map_eq_some_iff] at hk
        obtain ⟨k0, h1, rfl⟩ := hk
        exact .inr ⟨hb, k0, h1, rfl⟩
      · exact .inl ⟨by omega, hk⟩
    have hro : ∀ k, (shB (s.n + ·) k).ro = k.ro := fun k => by cases k <;> rfl
    have hnl : ∀ b k l, s0.get b = some k → φ1 b = some l → w.heap.size ≤ l.blk := fun b k l h1 h2 => by
      rcases hst.own b k l h1 h2 with h3 | ⟨b0, k0, l0, f1, _⟩
      · exact h3
      · simp [St.get, getH] at f1
    have hol : ∀ b k l, s.get b = some k → φ b = some l → l.blk < w.heap.size := fun b k l h1 h2 => by
      obtain ⟨l2, f1, f2⟩ := hr.blk b k h1
      rw [f1] at h2
      simp only [Option.some.injEq] at h2
      subst h2
      exact f2.lt
    have hpo : ∀ b l, b < s.n → φ' b = some l → φ b = some l := fun b l hb hl => by simpa only [φ', if_pos hb] using hl
    have hpn : ∀ b l, s.n ≤ b → φ' b = some l → φ1 (b - s.n) = some l := fun b l hb hl => by simpa only [φ', if_neg (Nat.not_lt.2 hb)] using hl
    refine ⟨φ', ⟨⟨fun b l hl => ?_, fun b k hk => ?_, fun b c k k' l l' h1 h2 hne hk h3 h4 => ?_⟩, hold, ⟨hb.os, hb.tape, hb.output, hb.size, fun c hc _ => hb.block c hc⟩, fun b k l h1 h2 => ?_⟩, hv.sh (n := (s.n + ·)) hnew⟩
    · show b < s.n + s0.n
      by_cases hb2 : b < s.n
      · omega
      · have := hst.rel.fresh _ _ (hpn b l (by omega) hl)
        omega
    · rcases hget b k hk with ⟨h1, h2⟩ | ⟨h1, k0, h2, rfl⟩
      · obtain ⟨l, f1, f2⟩ := hr.blk b k h2
        exact ⟨l, hold b l f1, f2.of_same hold (hb.block _ f2.lt)⟩
      · obtain ⟨l, f1, f2⟩ := hst.rel.blk _ k0 h2
        have := hnew _ _ f1
        rw [show s.n + (b - s.n) = b by omega] at this
        exact ⟨l, this, f2.sh (n := (s.n + ·)) hnew⟩
    · rcases hget b k h1 with ⟨g1, g2⟩ | ⟨g1, k0, g2, rfl⟩
      · rcases hget c k' h2 with ⟨e1, e2⟩ | ⟨e1, k1, e2, rfl⟩
        · exact hr.inj b c k k' l l' g2 e2 hne hk (hpo b l g1 h3) (hpo c l' e1 h4)
        · have := hol b k l g2 (hpo b l g1 h3)
          have := hnl _ _ _ e2 (hpn c l' e1 h4)
          omega
      · rcases hget c k' h2 with ⟨e1, e2⟩ | ⟨e1, k1, e2, rfl⟩
        · have := hol c k' l' e2 (hpo c l' e1 h4)
          have := hnl _ _ _ g2 (hpn b l g1 h3)
          omega
        · exact hst.rel.inj _ _ k0 k1 l l' g2 e2 (by omega) (by rw [← hro]; exact hk) (hpn b l g1 h3) (hpn c l' e1 h4)
    · rcases hget b k h1 with ⟨g1, g2⟩ | ⟨g1, k0, g2, rfl⟩
      · exact .inr ⟨b, k, l, g2, id, hpo b l g1 h2, rfl⟩
      · exact .inl (hnl _ _ _ g2 (hpn b l g1 h2))
  | _ => exact he.elim

theorem FnOk.moved {P : Program} {f : FuncId} {F : List Value → St → Option (Value × St)} (h : FnOk P f (.st F)) : FnOk P f (.st (movedW (F [] ⟨[], 0⟩))) := by
  intro φ s w args args' r s' hr ha hg
  unfold movedW at hg
  split at hg
  · split at hg
    · rename_i v s0 hF
      simp only [Option.some.injEq, Prod.mk.injEq] at hg
      obtain ⟨rfl, rfl⟩ := hg
      exact moved_calls h hr ha rfl hF
    · simp at hg
  · simp at hg

/-- One block is the caller's; the others are new. -/
def ren (b n : Nat) (i : Nat) : Nat := if i = 0 then b else n + (i - 1)

def shH1 (b n : Nat) : List (Nat × Blk) → List (Nat × Blk) → List (Nat × Blk)
  | [], h => h
  | (0, _) :: r, h => shH1 b n r h
  | (i + 1, k) :: r, h => (n + i, shB (ren b n) k) :: shH1 b n r h

def allRw : List (Nat × Blk) → Bool
  | [] => true
  | (i, k) :: r => (i == 0 || !k.ro) && allRw r

def plainRows : List (List Value) → Bool
  | [] => true
  | r :: q => plainVs r && plainRows q

/-- What a call of a number and a slice of plain rows answers, reckoned at a memory that holds these rows alone. -/
def movedAt (F : List Value → St → Option (Value × St)) (args : List Value) (s : St) : Option (Value × St) :=
  match args with
  | [.int k x, .slice none 0 0] => match F [.int k x, .slice none 0 0] ⟨[], 0⟩ with
    | some (v, s0) => some (shV (s.n + ·) v, ⟨shH (s.n + ·) s0.h s.h, s.n + s0.n⟩)
    | none => none
  | [.int k x, .slice (some ⟨b, 0, some 0⟩) len e] => match s.get b with
    | some (.row sz rows _) => if plainRows rows then (match F [.int k x, .slice (some ⟨0, 0, some 0⟩) len e] ⟨[(0, .row sz rows true)], 1⟩ with
      | some (v, s0) => if allRw s0.h then some (shV (ren b s.n) v, ⟨shH1 b s.n s0.h s.h, s.n + (s0.n - 1)⟩) else none
      | none => none) else none
    | _ => none
  | _ => none

theorem getH_sh1 {b n : Nat} {h : List (Nat × Blk)} (hh : ∀ c, n ≤ c → getH h c = none) : ∀ (h0 : List (Nat × Blk)) (c : Nat), getH (shH1 b n h0 h) c = if n ≤ c then (getH h0 (c - n + 1)).map (shB (ren b n)) else getH h c
  | [], c => by
    simp only [shH1, getH]
    split
    · rename_i hc; rw [hh c hc]; rfl
    · rfl
  | (0, k) :: r, c => by
    simp only [shH1, getH]
    rw [getH_sh1 hh r c]
    simp
  | (i + 1, k) :: r, c => by
    simp only [shH1, getH]
    by_cases hc : c = n + i
    · subst hc
      simp
    · rw [if_neg hc, getH_sh1 hh r c]
      by_cases hn : n ≤ c
      · rw [if_pos hn, if_pos hn, if_neg (by omega)]
      · rw [if_neg hn, if_neg hn]

theorem allRw_get : ∀ {h : List (Nat × Blk)} {i : Nat} {k : Blk}, allRw h = true → getH h i = some k → i ≠ 0 → k.ro = false
  | [], _, _, _, h, _ => by simp [getH] at h
  | (j, x) :: r, i, k, ha, h, hi => by
    simp only [allRw, Bool.and_eq_true, Bool.or_eq_true, beq_iff_eq, Bool.not_eq_true'] at ha
    simp only [getH] at h
    split at h
    · rename_i hij
      subst hij
      simp only [Option.some.injEq] at h
      subst h
      rcases ha.1 with h1 | h1
      · exact absurd h1 hi
      · exact h1
    · exact allRw_get ha.2 h hi

/-- The joining of what is new to what was there. -/
theorem joined {φ φ0 φ1 : Phi} {s s1 s0 : St} {w w' : World} {b : Nat} (hr : Rel φ s w) (hb : Below w.heap.size w w') (hst : Step φ0 s1 w φ1 s0 w') (hs1 : ∀ c k, s1.get c = some k → k.ro = true) (hrw : allRw s0.h = true)
    (h0 : ∀ l, φ1 0 = some l → φ b = some l) (hn1 : 1 ≤ s0.n) :
    ∃ φ', Step φ s w φ' ⟨shH1 b s.n s0.h s.h, s.n + (s0.n - 1)⟩ w' ∧ ∀ i l, φ1 i = some l → φ' (ren b s.n i) = some l := by
  let φ' : Phi := fun c => if c < s.n then φ c else φ1 (c - s.n + 1)
  have hold : ∀ c l, φ c = some l → φ' c = some l := fun c l hl => by
    have := hr.fresh c l hl
    simp only [φ', if_pos this, hl]
  have hnew : ∀ i l, φ1 i = some l → φ' (ren b s.n i) = some l := fun i l hl => by
    unfold ren
    split
    · rename_i hi; subst hi; exact hold b l (h0 l hl)
    · simp only [φ', if_neg (show ¬ s.n + (i - 1) < s.n by omega), show s.n + (i - 1) - s.n + 1 = i by omega, hl]
  have hnone : ∀ c, s.n ≤ c → getH s.h c = none := fun c hc => by
    cases hg : s.get c with
    | none => exact hg
    | some k =>
      obtain ⟨l, hl, _⟩ := hr.blk c k hg
      have := hr.fresh c l hl
      omega
  have hget : ∀ c k, (⟨shH1 b s.n s0.h s.h, s.n + (s0.n - 1)⟩ : St).get c = some k → (c < s.n ∧ s.get c = some k) ∨ (s.n ≤ c ∧ ∃ k0, s0.get (c - s.n + 1) = some k0 ∧ k = shB (ren b s.n) k0) := fun c k hk => by
    simp only [St.get, getH_sh1 hnone] at hk
    split at hk
    · rename_i hc
      rw [Option.map_eq_some_iff] at hk
      obtain ⟨k0, h1, rfl⟩ := hk
      exact .inr ⟨hc, k0, h1, rfl⟩
    · exact .inl ⟨by omega, hk⟩
  have hro : ∀ k, (shB (ren b s.n) k).ro = k.ro := fun k => by cases k <;> rfl
  have hnl : ∀ i k l, s0.get i = some k → i ≠ 0 → φ1 i = some l → w.heap.size ≤ l.blk := fun i k l h1 h3 h2 => by
    rcases hst.own i k l h1 h2 with h4 | ⟨b0, k0, l0, f1, f2, _⟩
    · exact h4
    · have := f2 (allRw_get hrw h1 h3)
      rw [hs1 b0 k0 f1] at this
      cases this
  have hol : ∀ c k l, s.get c = some k → φ c = some l → l.blk < w.heap.size := fun c k l h1 h2 => by
    obtain ⟨l2, f1, f2⟩ := hr.blk c k h1
    rw [f1] at h2
    simp only [Option.some.injEq] at h2
    subst h2
    exact f2.lt
  have hpo : ∀ c l, c < s.n → φ' c = some l → φ c = some l := fun c l hc hl => by simpa only [φ', if_pos hc] using hl
  have hpn : ∀ c l, s.n ≤ c → φ' c = some l → φ1 (c - s.n + 1) = some l := fun c l hc hl => by simpa only [φ', if_neg (Nat.not_lt.2 hc)] using hl
  refine ⟨φ', ⟨⟨fun c l hl => ?_, fun c k hk => ?_, fun c d k k' l l' h1 h2 hne hk h3 h4 => ?_⟩, hold, ⟨hb.os, hb.tape, hb.output, hb.size, fun c hc _ => hb.block c hc⟩, fun c k l h1 h2 => ?_⟩, hnew⟩
  · show c < s.n + (s0.n - 1)
    by_cases hb2 : c < s.n
    · omega
    · have := hst.rel.fresh _ _ (hpn c l (by omega) hl)
      omega
  · rcases hget c k hk with ⟨h1, h2⟩ | ⟨h1, k0, h2, rfl⟩
    · obtain ⟨l, f1, f2⟩ := hr.blk c k h2
      exact ⟨l, hold c l f1, f2.of_same hold (hb.block _ f2.lt)⟩
    · obtain ⟨l, f1, f2⟩ := hst.rel.blk _ k0 h2
      have := hnew _ _ f1
      rw [show ren b s.n (c - s.n + 1) = c by unfold ren; rw [if_neg (by omega)]; omega] at this
      exact ⟨l, this, f2.sh (n := ren b s.n) hnew⟩
  · rcases hget c k h1 with ⟨g1, g2⟩ | ⟨g1, k0, g2, rfl⟩
    · rcases hget d k' h2 with ⟨e1, e2⟩ | ⟨e1, k1, e2, rfl⟩
      · exact hr.inj c d k k' l l' g2 e2 hne hk (hpo c l g1 h3) (hpo d l' e1 h4)
      · have := hol c k l g2 (hpo c l g1 h3)
        have := hnl _ _ _ e2 (by omega) (hpn d l' e1 h4)
        omega
    · rcases hget d k' h2 with ⟨e1, e2⟩ | ⟨e1, k1, e2, rfl⟩
      · have := hol d k' l' e2 (hpo d l' e1 h4)
        have := hnl _ _ _ g2 (by omega) (hpn c l g1 h3)
        omega
      · exact hst.rel.inj _ _ k0 k1 l l' g2 e2 (by omega) (by rw [← hro]; exact hk) (hpn c l g1 h3) (hpn d l' e1 h4)
  · rcases hget c k h1 with ⟨g1, g2⟩ | ⟨g1, k0, g2, rfl⟩
    · exact .inr ⟨c, k, l, g2, id, hpo c l g1 h2, rfl⟩
    · exact .inl (hnl _ _ _ g2 (by omega) (hpn c l g1 h2))

theorem plainRows_mem : ∀ {rows : List (List Value)} {r : List Value}, plainRows rows = true → r ∈ rows → plainVs r = true
  | [], _, _, h => by simp at h
  | a :: q, r, h, hm => by
    simp only [plainRows, Bool.and_eq_true] at h
    rcases List.mem_cons.1 hm with rfl | hm
    · exact h.1
    · exact plainRows_mem h.2 hm

theorem plainVs_get : ∀ {l : List Value} {j : Nat} {v : Value}, plainVs l = true → l[j]? = some v → plainV v = true
  | [], _, _, _, h => by simp at h
  | a :: l, 0, v, h, hv => by
    simp only [plainVs, Bool.and_eq_true] at h
    simp only [List.getElem?_cons_zero, Option.some.injEq] at hv
    exact hv ▸ h.1
  | a :: l, j + 1, v, h, hv => by
    simp only [plainVs, Bool.and_eq_true] at h
    exact plainVs_get h.2 (by simpa using hv)

theorem below_ro {φ0 φ1 : Phi} {s1 s0 : St} {w w' : World} (hst : Step φ0 s1 w φ1 s0 w') (hs1 : ∀ c k, s1.get c = some k → k.ro = true) : Below w.heap.size w w' :=
  ⟨hst.frm.os, hst.frm.tape, hst.frm.output, hst.frm.size, fun c hc => hst.frm.old c hc fun b k l g1 g2 _ => by rw [hs1 b k g1] at g2; cases g2⟩

theorem FnOk.movedAt {P : Program} {f : FuncId} {F : List Value → St → Option (Value × St)} (h : FnOk P f (.st F)) : FnOk P f (.st (Sim.movedAt F)) := by
  intro φ s w args args' r s' hr ha hg
  unfold Sim.movedAt at hg
  split at hg
  · rename_i k x
    split at hg
    · rename_i v s0 hF
      simp only [Option.some.injEq, Prod.mk.injEq] at hg
      obtain ⟨rfl, rfl⟩ := hg
      exact moved_calls h hr ha rfl hF
    · simp at hg
  · rename_i k x b len e
    split at hg
    · rename_i sz rows ro hgb
      split at hg
      · rename_i hpl
        split at hg
        · rename_i v s0 hF
          split at hg
          · rename_i hrw
            simp only [Option.some.injEq, Prod.mk.injEq] at hg
            obtain ⟨rfl, rfl⟩ := hg
            obtain ⟨l, hl, hB⟩ := hr.blk b _ hgb
            let φ0 : Phi := fun i => if i = 0 then some l else none
            have hs1 : ∀ c k, (⟨[(0, .row sz rows true)], 1⟩ : St).get c = some k → k.ro = true := fun c k h => by
              simp only [St.get, getH] at h
              split at h
              · simp only [Option.some.injEq] at h; subst h; rfl
              · simp at h
            have hR : Rel φ0 ⟨[(0, .row sz rows true)], 1⟩ w := by
              refine ⟨fun i l' hi => ?_, fun i k hi => ?_, fun i j k k' l1 l2 h1 h2 hne hk => ?_⟩
              · simp only [φ0] at hi
                split at hi
                · rename_i h0; subst h0; exact Nat.zero_lt_one
                · simp at hi
              · simp only [St.get, getH] at hi
                split at hi
                · rename_i h0
                  simp only [Option.some.injEq] at hi
                  subst hi
                  refine ⟨l, by simp [φ0, h0], ?_⟩
                  obtain ⟨g1, g2, cs, et, fz, g3, g4, g5, _⟩ := hB
                  refine ⟨g1, g2, cs, et, fz, g3, g4, fun i r hr2 => ⟨(g5 i r hr2).1, (g5 i r hr2).2.1, fun j v hv => ?_⟩, fun e => by cases e⟩
                  obtain ⟨u, f1, f2⟩ := (g5 i r hr2).2.2 j v hv
                  have hpv := plainVs_get (plainRows_mem hpl (List.mem_of_getElem? hr2)) hv
                  refine ⟨u, f1, ?_⟩
                  rw [VRel.plain_eq f2 hpv]
                  exact VRel.of_plain _ hpv
                · simp at hi
              · rw [hs1 i k h1] at hk; cases hk
            have hA : VsRel φ0 [.int k x, .slice (some ⟨0, 0, some 0⟩) len e] args' := by
              cases ha with
              | cons a1 t1 =>
                cases a1
                cases t1 with
                | cons a2 t2 =>
                  cases t2
                  cases a2 with
                  | slice q1 q2 q3 q4 q5 =>
                    rw [hl] at q1
                    simp only [Option.some.injEq] at q1
                    subst q1
                    exact .cons (.int _ _) (.cons (.slice (b := 0) (by simp [φ0]) q2 q3 q4 q5) .nil)
            refine (h _ _ w _ _ _ _ hR hA hF).mono fun e w' he => ?_
            cases e with
            | returned u =>
              obtain ⟨φ1, hst, hv⟩ := he
              have hb := below_ro hst hs1
              have h10 : φ1 0 = some l := hst.ext 0 l (by simp [φ0])
              have hn1 : 1 ≤ s0.n := hst.rel.fresh 0 l h10
              obtain ⟨φ', g1, g2⟩ := joined (b := b) hr hb hst hs1 hrw (fun l' hl' => by rw [h10] at hl'; simp only [Option.some.injEq] at hl'; rw [← hl']; exact hl) hn1
              exact ⟨φ', g1, hv.sh (n := ren b s.n) g2⟩
            | _ => exact he.elim
          · simp at hg
        · simp at hg
      · simp at hg
    · simp at hg
  · simp at hg
end Go.Sim
