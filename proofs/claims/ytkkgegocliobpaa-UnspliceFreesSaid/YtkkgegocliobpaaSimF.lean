/-
  append and copy.
-/
import Derived.Test.YtkkgegocliobpaaSimE
import Derived.Laws.AppendOwn
namespace Go.Sim

def notInt : TypeDesc → Bool
  | .slice _ => true
  | .string => true
  | _ => false

theorem notInt_cases {d : TypeDesc} (h : notInt d = true) : (∃ e, d = .slice e) ∨ d = .string := by
  cases d <;> simp_all [notInt]

theorem lenV_rel {φ : Phi} {x x' : Value} {n : Nat} (P : Program) (h : VRel φ x x') (hn : lenV x = some n) (w : World) : (Builtin.lenOf x').run P w = .ok n w := by
  cases h <;> simp [lenV] at hn <;> subst hn <;> simp [Builtin.lenOf]

section
variable {P : Program} {t u ty e : TypeId} {inf : TypeInfo} {d : TypeDesc} {z : Value}

theorem append_in (w : World) (ht : P.underlying t = some (.slice e)) (hu : P.underlying u = some d) (hd : notInt d = true) (hi : P.info? e = some inf)
    {base : Option Addr} {sLen sCap n : Nat} {x' : Value} {xs' : List Value} (hl : (Builtin.lenOf x').run P w = .ok n w) (hf : (Builtin.firstCells inf.size n x').run P w = .ok ⟨xs'⟩ w)
    (hc : sLen + n ≤ sCap) {w' : World} (hs : ∀ a, base = some a → (storeCells (a.add (sLen * inf.size)) xs').run P w = .ok () w') (hn : base = none → w' = w) :
    (Builtin.append_ #[t, u] ty #[.slice base sLen sCap, x']).run P w = .ok (.slice base (sLen + n) sCap) w' := by
  cases base with
  | none =>
    have := hn rfl
    subst this
    rcases notInt_cases hd with ⟨e2, rfl⟩ | rfl <;>
      simp [Builtin.append_, run_underlying ht, run_underlying hu, sizeOf, typeInfo, hi, hl, hf, hc]
  | some a =>
    have hs := hs a rfl
    rcases notInt_cases hd with ⟨e2, rfl⟩ | rfl <;>
      simp [Builtin.append_, run_underlying ht, run_underlying hu, sizeOf, typeInfo, hi, hl, hf, hc, hs]

theorem append_out (w : World) (ht : P.underlying t = some (.slice e)) (hu : P.underlying u = some d) (hd : notInt d = true) (hi : P.info? e = some inf) (hz : inf.zero = some z)
    {base : Option Addr} {sLen sCap n : Nat} {x' : Value} {olds xs' : List Value} (hl : (Builtin.lenOf x').run P w = .ok n w)
    (ho : (Builtin.firstCells inf.size sLen (.slice base sLen sCap)).run P w.drew = .ok ⟨olds⟩ w.drew) (hf : (Builtin.firstCells inf.size n x').run P w.drew = .ok ⟨xs'⟩ w.drew)
    (hc : sCap < sLen + n) (hb : (sLen + n) * inf.bytes ≤ 140737488355328) (h63 : sLen + n ≤ 9223372036854775807) :
    (Builtin.append_ #[t, u] ty #[.slice base sLen sCap, x']).run P w =
      .ok (.slice (some ⟨w.heap.size, 0, none⟩) (sLen + n) (grownCap w (sLen + n) sCap e))
        (w.drew.alloc (.cells ⟨olds ++ xs' ++ (Builtin.zeroCells z.cells (grownCap w (sLen + n) sCap e - (sLen + n))).toList⟩ e)) := by
  have hn : ¬ (sLen + n ≤ sCap) := by omega
  have h63' : ¬ (9223372036854775807 < ((sLen : Int) + (n : Int))) := by omega
  have hfit := growslice_fits (bytes := inf.bytes) hc hb
  have h48' : ¬ (281474976710656 < Builtin.nextslicecap (sLen + n) sCap * inf.bytes) := by omega
  rcases notInt_cases hd with ⟨e2, rfl⟩ | rfl <;>
    simp [Builtin.append_, run_underlying ht, run_underlying hu, sizeOf, typeInfo, zeroValue, hi, hz, hl, hn, h63', h48', Question.forced, hf, ho, newRow, grownCap] <;>
    (congr 2; apply Array.ext'; simp [List.append_assoc])

end

theorem grownCap_ge (w : World) (need old : Nat) (e : TypeId) : need ≤ grownCap w need old e := by
  unfold grownCap
  simp only [Question.cut]
  omega

theorem zeroCells_length (z : Array Value) (n : Nat) : (Builtin.zeroCells z n).toList.length = n * z.size := by
  simp [Builtin.zeroCells]

/-- A new row behind an append. -/
theorem grown_sound {φ : Phi} {s : St} {w : World} {sz n : Nat} {rows : List (List Value)} {cs' rest : List Value} (t : TypeId) (cap : Nat) (h : Rel φ s w)
    (hr : ∀ q ∈ rows, q.length = sz ∧ oneCs q = true) (hv : VsRel φ rows.flatten cs') (hl : n = rows.length) (hcap : n ≤ cap) (hrest : rest.length = (cap - n) * sz) :
    ∃ φ', VRel φ' (.slice (some ⟨s.n, 0, some 0⟩) n 1) (.slice (some ⟨w.heap.size, 0, none⟩) n cap) ∧
      Step φ s w φ' (s.new (.row sz rows false)) (w.drew.alloc (.cells ⟨cs' ++ rest⟩ t)) := by
  let l : Loc := ⟨w.heap.size, 0, sz, cap⟩
  have hcl : cs'.length = rows.length * sz := by rw [← hv.length, flat_len fun q hq => (hr q hq).1]
  have hle : rows.length * sz + (cap - n) * sz = cap * sz := by
    rw [← Nat.add_mul, ← hl]; congr 1; omega
  refine ⟨φ.add s.n l, ?_, new_step (l := l) h (Nat.le_refl _) ?_ (fun c hc => heap_alloc_old w.drew _ c hc) (by simp) rfl rfl rfl (fun a _ => Go.RowKit.frozen?_alloc_cells w.drew _ _ a)⟩
  · exact VRel.slice (l := l) (i := 0) (Phi.add_self _ _ _) hcap (by simp [l]) (fun _ => by simp [l]) (.inl ⟨rfl, by simp [l]⟩)
  · refine ⟨rfl, by simp [l]; omega, ⟨cs' ++ rest⟩, t, (0, 0), heap_alloc_new w.drew _, by simp [l, hcl, hrest]; omega, fun i q hq => ?_, fun _ => rfl⟩
    have hm := List.mem_of_getElem? hq
    refine ⟨(hr q hm).1, (hr q hm).2, fun j v hjv => ?_⟩
    have := flat_get (fun q hq => (hr q hq).1) hq hjv
    obtain ⟨u, hu, hr⟩ := hv.get this
    refine ⟨u, ?_, hr.mono (Phi.le_add h l)⟩
    have hlt : i * sz + j < cs'.length := by
      rcases Nat.lt_or_ge (i * sz + j) cs'.length with h | h
      · exact h
      · simp [List.getElem?_eq_none h] at hu
    simp only [l, Nat.zero_add, List.getElem?_toArray]
    rw [List.getElem?_append_left hlt]
    exact hu

theorem Step.of_get {φ φ' : Phi} {s s' s'' : St} {w w' : World} (h : Step φ s w φ' s' w') (hn : s''.n = s'.n) (hg : ∀ b k, s''.get b = some k → s'.get b = some k) : Step φ s w φ' s'' w' :=
  ⟨⟨fun b l hb => hn ▸ h.rel.fresh b l hb, fun b k hk => h.rel.blk b k (hg b k hk), fun b c k k' l l' h1 h2 => h.rel.inj b c k k' l l' (hg b k h1) (hg c k' h2)⟩, h.ext, h.frm, fun b k l h1 => h.own b k l (hg b k h1)⟩

theorem del_new_get (s : St) (b : Nat) (k : Blk) : ∀ c x, ((s.del b).new k).get c = some x → (s.new k).get c = some x := by
  intro c x hx
  rw [St.get_new, show (s.del b).n = s.n from rfl] at hx
  rw [St.get_new]
  by_cases hc : c = s.n
  · rw [if_pos hc] at hx ⊢; exact hx
  · rw [if_neg hc] at hx ⊢
    rw [St.get_del] at hx
    by_cases hcb : c = b
    · rw [if_pos hcb] at hx; simp at hx
    · rw [if_neg hcb] at hx; exact hx

theorem ones_of {φ : Phi} {rows : List (List Value)} {sz : Nat} {xs' : List Value} (hr : ∀ q ∈ rows, q.length = sz ∧ oneCs q = true) (hv : VsRel φ rows.flatten xs') : ∀ x ∈ xs', x.oneCell' = true := by
  intro x hx
  obtain ⟨m, hm⟩ := List.getElem?_of_mem hx
  have h1 : oneCs rows.flatten = true := by
    refine oneCs_of fun i v hv => ?_
    obtain ⟨q, hq, hvq⟩ := List.mem_flatten.1 (List.mem_of_getElem? hv)
    obtain ⟨j, hj⟩ := List.getElem?_of_mem hvq
    exact oneCs_get (hr q hq).2 hj
  have ho := hv.oneCs
  rw [h1] at ho
  have := oneCs_get ho hm
  cases x <;> simp_all [oneC, Value.oneCell']

/-- Some rows of a block turned: what the world's cells are then. -/
theorem rows_put {φ φ' : Phi} {w : World} {l l' : Loc} {sz i n : Nat} {rows news rows' : List (List Value)} {ro : Bool} {xs' : List Value} {cs : Array Value} {e : TypeId} (hle : φ.le φ')
    (hB : BRel φ l (.row sz rows ro) w) (hh : w.heap[l.blk]? = some (.cells cs e (0, 0)))
    (hr : ∀ q ∈ news, q.length = sz ∧ oneCs q = true) (hn : news.length = n) (hv : VsRel φ news.flatten xs') (hi : i + n ≤ l.cap)
    (hl1 : l'.blk = l.blk) (hl2 : l'.off = l.off) (hl3 : l'.sz = l.sz) (hl4 : l'.cap = l.cap) (hlen : rows'.length ≤ l.cap)
    (hnew : ∀ m q, rows'[m]? = some q → (i ≤ m ∧ m < i + n ∧ news[m - i]? = some q) ∨ ((m < i ∨ i + n ≤ m) ∧ rows[m]? = some q)) :
    BRel φ' l' (.row sz rows' false) (w.setRow l.blk (cs.toList.take (l.off + i * sz) ++ xs' ++ cs.toList.drop (l.off + i * sz + xs'.length)).toArray) := by
  obtain ⟨k1, k2, cs0, e0, fz, hh0, k3, k4, k5⟩ := hB
  rw [hh] at hh0
  simp only [Option.some.injEq, Obj.cells.injEq] at hh0
  obtain ⟨rfl, rfl, rfl⟩ := hh0
  have hxl : xs'.length = n * sz := by rw [← hv.length, flat_len fun q hq => (hr q hq).1, hn]
  have hcap : l.off + i * sz + n * sz ≤ l.off + l.cap * sz := by
    have : (i + n) * sz ≤ l.cap * sz := Nat.mul_le_mul_right _ hi
    rw [Nat.add_mul] at this
    omega
  have hsz : (cs.toList.take (l.off + i * sz) ++ xs' ++ cs.toList.drop (l.off + i * sz + xs'.length)).toArray.size = cs.size := by
    simp; omega
  have hget : ∀ o, (cs.toList.take (l.off + i * sz) ++ xs' ++ cs.toList.drop (l.off + i * sz + xs'.length)).toArray[o]? =
      if l.off + i * sz ≤ o ∧ o < l.off + i * sz + xs'.length then xs'[o - (l.off + i * sz)]? else cs[o]? := by
    intro o
    simp only [List.getElem?_toArray]
    by_cases ho : o < l.off + i * sz
    · rw [if_neg (by omega), List.append_assoc, List.getElem?_append_left (by simp; omega)]
      simp [ho]
    · by_cases ho2 : o < l.off + i * sz + xs'.length
      · rw [if_pos (by omega), List.append_assoc, List.getElem?_append_right (by simp; omega), List.getElem?_append_left (by simp; omega)]
        congr 1
        simp; omega
      · rw [if_neg (by omega), List.append_assoc, List.getElem?_append_right (by simp; omega), List.getElem?_append_right (by simp; omega), List.getElem?_drop]
        simp
        congr 1
        omega
  refine ⟨hl3.trans k1, hl4 ▸ hlen, _, e, (0, 0), by rw [hl1]; exact setRow_heap w l.blk cs _ e _ hh, by rw [hsz, hl2, hl4]; exact k3, fun m q hq => ?_, fun _ => rfl⟩
  rw [hl2]
  rcases hnew m q hq with ⟨h1, h2, h3⟩ | ⟨h1, h3⟩
  · have hm := List.mem_of_getElem? h3
    refine ⟨(hr q hm).1, (hr q hm).2, fun j v hjv => ?_⟩
    have hj : j < q.length := by
      rcases Nat.lt_or_ge j q.length with h | h
      · exact h
      · simp [List.getElem?_eq_none h] at hjv
    have hfg := flat_get (fun q hq => (hr q hq).1) h3 hjv
    obtain ⟨u, hu, hru⟩ := hv.get hfg
    have hql := (hr q hm).1
    have e1 : m * sz = i * sz + (m - i) * sz := by rw [← Nat.add_mul]; congr 1; omega
    have e2 : (m - i) * sz + sz ≤ n * sz := by
      have : (m - i + 1) * sz ≤ n * sz := Nat.mul_le_mul_right _ (by omega)
      rw [Nat.add_mul] at this
      omega
    refine ⟨u, ?_, hru.mono hle⟩
    rw [hget, if_pos (by omega), ← hu]
    congr 1
    omega
  · obtain ⟨q1, q2, q3⟩ := k4 m q h3
    refine ⟨q1, q2, fun j v hjv => ?_⟩
    have hj : j < q.length := by
      rcases Nat.lt_or_ge j q.length with h | h
      · exact h
      · simp [List.getElem?_eq_none h] at hjv
    obtain ⟨u, hu, hru⟩ := q3 j v hjv
    refine ⟨u, ?_, hru.mono hle⟩
    rw [hget, if_neg ?_]
    · exact hu
    · rcases h1 with h1 | h1
      · have : (m + 1) * sz ≤ i * sz := Nat.mul_le_mul_right _ (by omega)
        rw [Nat.add_mul] at this
        omega
      · have : (i + n) * sz ≤ m * sz := Nat.mul_le_mul_right _ (by omega)
        rw [Nat.add_mul] at this
        omega

theorem app_sound {φ : Phi} {s s' : St} {w : World} {sz by_ : Nat} {v v' x x' r : Value} {P : Program} {t u ty e : TypeId} {inf : TypeInfo} {d : TypeDesc} {z : Value}
    (ht : P.underlying t = some (.slice e)) (hu : P.underlying u = some d) (hd : notInt d = true) (hi : P.info? e = some inf) (hz : inf.zero = some z) (hsz : inf.size = sz) (hby : inf.bytes = by_) (hzl : (cellsL z).length = sz)
    (h : Rel φ s w) (hv : VRel φ v v') (hx : VRel φ x x') (ha : app s sz by_ v x = some (r, s')) :
    ∃ φ' r' w', (Builtin.append_ #[t, u] ty #[v', x']).run P w = .ok r' w' ∧ VRel φ' r r' ∧ Step φ s w φ' s' w' := by
  subst hsz; subst hby
  have hzs : z.cells.size = inf.size := by
    have := congrArg List.length (cells_toList z)
    simp at this
    omega
  simp only [app] at ha
  cases hn : lenV x with
  | none => simp [hn] at ha
  | some n =>
    simp only [hn] at ha
    cases hrw : rowsOf s inf.size n x with
    | none => simp [hrw] at ha
    | some news =>
      simp only [hrw] at ha
      obtain ⟨r1, r2, xs', r3, r4, r5⟩ := rows_sound P h hx hrw
      have hlen : ∀ w2 : World, (Builtin.lenOf x').run P w2 = .ok n w2 := lenV_rel P hx hn
      cases hv with
      | snil =>
        simp only at ha
        by_cases h0 : n = 0
        · rw [if_pos h0] at ha
          simp at ha
          obtain ⟨rfl, rfl⟩ := ha
          subst h0
          refine ⟨φ, _, w, append_in w ht hu hd hi (base := none) (hlen w) (r5 w rfl) (by omega) (w' := w) (by simp) (fun _ => rfl), .snil, Step.refl h⟩
        · rw [if_neg h0] at ha
          by_cases hb : n * inf.bytes ≤ 140737488355328 ∧ n ≤ 9223372036854775807
          · rw [if_pos hb] at ha
            simp at ha
            obtain ⟨rfl, rfl⟩ := ha
            have hrun := append_out (ty := ty) w ht hu hd hi hz (base := none) (sLen := 0) (sCap := 0) (olds := []) (hlen w) (by simp [Builtin.firstCells]) (r5 w.drew rfl) (by omega) (by simpa using hb.1) (by omega)
            obtain ⟨φ', g1, g2⟩ := grown_sound (n := n) (rest := (Builtin.zeroCells z.cells (grownCap w (0 + n) 0 e - (0 + n))).toList) e (grownCap w (0 + n) 0 e) h r2 r4 r1.symm
              (by have := grownCap_ge w (0 + n) 0 e; omega) (by rw [zeroCells_length, hzs, Nat.zero_add])
            exact ⟨φ', _, _, hrun, by simpa using g1, by simpa using g2⟩
          · rw [if_neg hb] at ha; simp at ha
      | @slice b i len ec c a l hl h1 h2 h3 h4 =>
        simp only at ha
        cases hb : s.get b with
        | none => simp [hb] at ha
        | some k =>
          cases k with
          | map es ro => simp [hb] at ha
          | row sz' rows ro =>
            simp only [hb] at ha
            by_cases hc : sz' = inf.size ∧ i + len ≤ rows.length
            · rw [if_pos hc] at ha
              obtain ⟨rfl, hil⟩ := hc
              obtain ⟨l2, g2, hB⟩ := h.blk b _ hb
              rw [hl] at g2
              simp only [Option.some.injEq] at g2
              subst g2
              by_cases hbd : (len + n) * inf.bytes ≤ 140737488355328 ∧ len + n ≤ 9223372036854775807
              · rw [if_pos hbd] at ha
                have hB' := hB
                obtain ⟨k1, k2, cs, e', fz, hh, k3, k4, k5⟩ := hB'
                -- the old rows
                have hold : ∀ w2 : World, w2.heap = w.heap → ∃ olds, olds.length = len * inf.size ∧ VsRel φ ((rows.drop i).take len).flatten olds ∧ (Builtin.firstCells inf.size len (.slice (some a) len c)).run P w2 = .ok ⟨olds⟩ w2 := by
                  intro w2 hw2
                  have hro : rowsOf s inf.size len (.slice (some ⟨b, i, some 0⟩) len ec) = some ((rows.drop i).take len) := by
                    simp [rowsOf, hb, hil]
                  obtain ⟨q1, q2, olds, q3, q4, q5⟩ := rows_sound P h (.slice hl h1 h2 h3 h4) hro
                  exact ⟨olds, q3, q4, q5 w2 hw2⟩
                have holdr : ∀ q ∈ (rows.drop i).take len, q.length = inf.size ∧ oneCs q = true := by
                  intro q hq
                  obtain ⟨m, hm⟩ := List.getElem?_of_mem hq
                  rw [List.getElem?_take] at hm
                  split at hm
                  · rw [List.getElem?_drop] at hm
                    exact ⟨(k4 _ q hm).1, (k4 _ q hm).2.1⟩
                  · simp at hm
                -- fresh memory
                have hfresh : c < len + n → ∃ φ' r' w', (Builtin.append_ #[t, u] ty #[.slice (some a) len c, x']).run P w = .ok r' w' ∧ VRel φ' (.slice (some ⟨s.n, 0, some 0⟩) (len + n) 1) r' ∧
                    Step φ s w φ' (s.new (.row inf.size ((rows.drop i).take len ++ news) false)) w' := by
                  intro hcn
                  obtain ⟨olds, o1, o2, o3⟩ := hold w.drew rfl
                  have hrun := append_out (ty := ty) w ht hu hd hi hz (hlen w) o3 (r5 w.drew rfl) hcn hbd.1 hbd.2
                  have hll : ((rows.drop i).take len ++ news).length = len + n := by simp [r1]; omega
                  obtain ⟨φ', g1, g2⟩ := grown_sound (n := len + n) (rows := (rows.drop i).take len ++ news) (cs' := olds ++ xs') (rest := (Builtin.zeroCells z.cells (grownCap w (len + n) c e - (len + n))).toList) e (grownCap w (len + n) c e) h
                    (fun q hq => by rcases List.mem_append.1 hq with hq | hq; exact holdr q hq; exact r2 q hq)
                    (by rw [List.flatten_append]; exact o2.append r4) hll.symm (grownCap_ge w (len + n) c e) (by rw [zeroCells_length, hzs])
                  exact ⟨φ', _, _, hrun, g1, g2⟩
                by_cases he : ec = 1
                · subst he
                  simp only [if_true] at ha
                  cases ro with
                  | true => simp at ha
                  | false =>
                    simp only [Bool.false_eq_true, if_false] at ha
                    have hci : i + c = l.cap := by
                      rcases h4 with ⟨_, h4⟩ | h4
                      · exact h4
                      · omega
                    by_cases hn0 : n = 0
                    · rw [if_pos hn0] at ha
                      simp at ha
                      obtain ⟨rfl, rfl⟩ := ha
                      subst hn0
                      have hxs : xs' = [] := by
                        have : xs'.length = 0 := by simpa using r3
                        exact List.length_eq_zero_iff.1 this
                      subst hxs
                      refine ⟨φ, _, w, append_in w ht hu hd hi (hlen w) (r5 w rfl) (by omega) (w' := w) (fun a _ => by simp [storeCells]) (by simp), .slice hl h1 h2 h3 h4, Step.refl h⟩
                    · rw [if_neg hn0] at ha
                      by_cases hi0 : i = 0
                      · rw [if_pos hi0] at ha
                        simp at ha
                        obtain ⟨rfl, rfl⟩ := ha
                        subst hi0
                        by_cases hcn : len + n ≤ c
                        · have hfz := k5 rfl
                          subst hfz
                          have haddr := h3 (by omega)
                          subst haddr
                          have hst := run_storeCells_at P l.blk (l.off + 0 * l.sz + len * inf.size) e' xs' 0 cs w hh (by
                            have : (len + n) * inf.size ≤ l.cap * inf.size := Nat.mul_le_mul_right _ (by omega)
                            rw [Nat.add_mul] at this
                            simp; omega) (ones_of r2 r4)
                          have hst' : (storeCells ((⟨l.blk, l.off + 0 * l.sz, none⟩ : Addr).add (len * inf.size)) xs').run P w = .ok () (w.setRow l.blk (cs.toList.take (l.off + len * inf.size) ++ xs' ++ cs.toList.drop (l.off + len * inf.size + xs'.length)).toArray) := by
                            rw [Addr.add_mid, hst]; simp
                          refine ⟨φ.add s.n l, _, _, append_in w ht hu hd hi (hlen w) (r5 w rfl) hcn (fun a ha => by cases ha; exact hst') (by simp), ?_, move_step (l' := l) h hb rfl rfl hl rfl ?_ (fun c hc => setRow_other w l.blk c _ hc) (by simp) rfl rfl rfl⟩
                          · exact VRel.slice (Phi.add_self _ _ _) hcn h2 (fun _ => rfl) (.inl ⟨rfl, hci⟩)
                          · refine rows_put (i := len) (n := n) (Phi.le_add h l) hB hh r2 r1 r4 (by omega) rfl rfl rfl rfl (by simp [r1]; omega) fun m q hq => ?_
                            by_cases hm : m < len
                            · right
                              rw [List.getElem?_append_left (by simp; omega), List.getElem?_take, if_pos hm] at hq
                              exact ⟨.inl hm, hq⟩
                            · left
                              rw [List.getElem?_append_right (by simp; omega)] at hq
                              have hlt : (rows.take len).length = len := by simp; omega
                              rw [hlt] at hq
                              have : m - len < news.length := by
                                rcases Nat.lt_or_ge (m - len) news.length with h | h
                                · exact h
                                · simp [List.getElem?_eq_none h] at hq
                              exact ⟨by omega, by omega, hq⟩
                        · obtain ⟨φ', r', w', f1, f2, f3⟩ := hfresh (by omega)
                          refine ⟨φ', r', w', f1, f2, f3.of_get rfl ?_⟩
                          simpa using del_new_get s b (.row inf.size (rows.take len ++ news) false)
                      · rw [if_neg hi0] at ha; simp at ha
                · rw [if_neg he] at ha
                  have hec : ec = 2 * c := by
                    rcases h4 with ⟨h4, _⟩ | h4
                    · exact absurd h4 he
                    · exact h4
                  have hdiv : ec / 2 = c := by omega
                  rw [hdiv] at ha
                  by_cases hcn : len + n ≤ c
                  · rw [if_pos hcn] at ha
                    cases ro with
                    | true => simp at ha
                    | false =>
                      simp only [Bool.false_eq_true, if_false, Option.some.injEq, Prod.mk.injEq] at ha
                      obtain ⟨rfl, rfl⟩ := ha
                      have hfz := k5 rfl
                      subst hfz
                      by_cases hc0 : c = 0
                      · -- nothing at all
                        have hn0 : n = 0 := by omega
                        have hl0 : len = 0 := by omega
                        subst hc0; subst hn0; subst hl0
                        have hxs : xs' = [] := by
                          have : xs'.length = 0 := by simpa using r3
                          exact List.length_eq_zero_iff.1 this
                        subst hxs
                        have hnw : news = [] := List.length_eq_zero_iff.1 r1
                        subst hnw
                        refine ⟨φ, _, w, append_in w ht hu hd hi (hlen w) (r5 w rfl) (by omega) (w' := w) (fun a _ => by simp [storeCells]) (by simp), .slice hl (by omega) h2 h3 h4, ?_⟩
                        refine (Step.refl h).of_get rfl fun m q hq => ?_
                        rw [St.get_put] at hq
                        by_cases hm : m = b
                        · subst hm
                          rw [if_pos rfl, hb] at hq
                          simp at hq
                          rw [hb, ← hq]
                        · rw [if_neg hm] at hq; exact hq
                      · have haddr := h3 hc0
                        subst haddr
                        have hcapsz : (i + len + n) * inf.size ≤ l.cap * inf.size := Nat.mul_le_mul_right _ (by omega)
                        have hst := run_storeCells_at P l.blk (l.off + i * l.sz + len * inf.size) e' xs' 0 cs w hh (by
                          rw [Nat.add_mul, Nat.add_mul] at hcapsz
                          rw [k1, r3]; omega) (ones_of r2 r4)
                        have eo : l.off + i * l.sz + len * inf.size + 0 = l.off + (i + len) * inf.size := by rw [k1, Nat.add_mul]; omega
                        have hst' : (storeCells ((⟨l.blk, l.off + i * l.sz, none⟩ : Addr).add (len * inf.size)) xs').run P w = .ok () (w.setRow l.blk (cs.toList.take (l.off + (i + len) * inf.size) ++ xs' ++ cs.toList.drop (l.off + (i + len) * inf.size + xs'.length)).toArray) := by
                          rw [Addr.add_mid, hst, eo]
                        refine ⟨φ, _, _, append_in w ht hu hd hi (hlen w) (r5 w rfl) hcn (fun a ha => by cases ha; exact hst') (by simp), .slice hl hcn h2 (fun _ => rfl) h4, put_step h hb rfl hl ?_ (fun c hc => setRow_other w l.blk c _ hc) (by simp) rfl rfl rfl⟩
                        refine rows_put (i := i + len) (n := n) (.refl _) hB hh r2 r1 r4 (by omega) rfl rfl rfl rfl (by simp [r1]; omega) fun m q hq => ?_
                        by_cases hm : m < i + len
                        · right
                          rw [List.append_assoc, List.getElem?_append_left (by simp; omega), List.getElem?_take, if_pos hm] at hq
                          exact ⟨.inl hm, hq⟩
                        · have hlt : (rows.take (i + len)).length = i + len := by simp; omega
                          rw [List.append_assoc, List.getElem?_append_right (by omega), hlt] at hq
                          by_cases hm2 : m < i + len + n
                          · left
                            rw [List.getElem?_append_left (by omega)] at hq
                            exact ⟨by omega, hm2, hq⟩
                          · right
                            rw [List.getElem?_append_right (by omega), List.getElem?_drop] at hq
                            refine ⟨.inr (by omega), ?_⟩
                            rw [← hq]; congr 1; omega
                  · rw [if_neg hcn] at ha
                    simp only [Option.some.injEq, Prod.mk.injEq] at ha
                    obtain ⟨rfl, rfl⟩ := ha
                    exact hfresh (by omega)
              · rw [if_neg hbd] at ha; simp at ha
            · rw [if_neg hc] at ha; simp at ha
      | _ => simp at ha

end Go.Sim
