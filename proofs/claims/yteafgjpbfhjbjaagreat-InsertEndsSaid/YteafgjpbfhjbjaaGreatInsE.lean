/-
  The two machines of package insert side by side.
-/
import Derived.Test.YteafgjpbfhjbjaaGreatInsD
import Derived.Test.YteafgjpbfhjbjaaGreatMachV
set_option linter.unusedSimpArgs false
set_option linter.unusedVariables false
set_option maxRecDepth 100000
set_option maxHeartbeats 2000000
namespace Go.Proofs.YteafgjpbfhjbjaaGreat
open Go.Sim Go.Sim.Bt
attribute [local congr] bdc cndc itec gdc gdSc gdUc
def PosA (a : Ans) : Prop := 0 ≤ a.l.bt ∧ 0 ≤ a.r.bt
theorem ans_pos {s : St} {r : List Value} (h : Leaf.Are s [.i .i64, .b, .i .i64, .i .i64, .i .u64, .i .i64, .i .u64, .i .i64, .i .i64, .i .u64, .i .i64, .i .u64, .sl [.i .u8]] r) : PosA (ansOf r) := by
  unfold Leaf.Are Leaf.Are Leaf.Are Leaf.Are Leaf.Are Leaf.Are Leaf.Are Leaf.Are Leaf.Are Leaf.Are Leaf.Are Leaf.Are Leaf.Are Leaf.Are at h
  obtain ⟨_, _, rfl, q1, _, _, rfl, q2, _, _, rfl, q3, _, _, rfl, q4, _, _, rfl, q5, _, _, rfl, q6, _, _, rfl, q7, _, _, rfl, q8, _, _, rfl, q9, _, _, rfl, q10, _, _, rfl, q11, _, _, rfl, q12, v, _, rfl, q13, rfl⟩ := h
  unfold Leaf.Is at q1 q2 q3 q4 q5 q6 q7 q8 q9 q10 q11 q12
  obtain ⟨_, rfl, _⟩ := q1
  obtain ⟨_, rfl⟩ := q2
  obtain ⟨_, rfl, _⟩ := q3
  obtain ⟨_, rfl, _⟩ := q4
  obtain ⟨_, rfl, _⟩ := q5
  obtain ⟨_, rfl, _⟩ := q6
  obtain ⟨_, rfl, w7⟩ := q7
  obtain ⟨_, rfl, _⟩ := q8
  obtain ⟨_, rfl, _⟩ := q9
  obtain ⟨_, rfl, _⟩ := q10
  obtain ⟨_, rfl, _⟩ := q11
  obtain ⟨_, rfl, w12⟩ := q12
  exact ⟨(wf_u64 w7).1, (wf_u64 w12).1⟩
theorem isO_of3 {s : St} {v : Value} (h : Leaf.Is s (.sl [.b, .i .i64, .b, .i .i64, .i .i64, .i .u64, .i .i64, .i .u64, .i .i64, .i .i64, .i .u64, .i .i64, .i .u64, .sl [.i .u8]]) v) : ∃ l, IsO s v l ∧ ∀ (j : Nat) (o : OpA), l[j]? = some o → PosA o.a ∧ bx o.a.v = some [o.a.v] := by
  unfold Leaf.Is at h
  rcases h with rfl | ⟨b, len, cap, rows, rfl, h1, h2, h3, h4, h5⟩
  · exact ⟨[], .inl ⟨rfl, rfl⟩, fun j a h => by simp at h⟩
  · have g : ∀ (j : Nat) a, ((rows.take len).map opOf)[j]? = some a → rows[j]? = some a.cs ∧ PosA a.a ∧ bx a.a.v = some [a.a.v] := by
      intro j a ha
      rw [List.getElem?_map, Option.map_eq_some_iff] at ha
      obtain ⟨r, hr, rfl⟩ := ha
      rw [List.getElem?_take] at hr
      split at hr
      · have hh := h5 r (List.mem_of_getElem? hr)
        unfold Leaf.Are at hh
        obtain ⟨w, r', rfl, q0, hh⟩ := hh
        unfold Leaf.Is at q0
        obtain ⟨w', rfl⟩ := q0
        obtain ⟨g1, g2⟩ := ans_of hh
        refine ⟨?_, ans_pos hh, val_bx g2⟩
        show rows[j]? = some (.bool w' :: (ansOf r').cs)
        rw [hr]
        congr 2
      · cases hr
    exact ⟨(rows.take len).map opOf, .inr ⟨b, 0, 2 * cap, rows, true, by rw [List.length_map, List.length_take]; congr 1; omega, h3, fun j a ha => by rw [Nat.zero_add]; exact (g j a ha).1⟩, fun j a ha => (g j a ha).2⟩
theorem AtI.stp {ks : List Nat} {c : IC} {s s' : St} {p b q U : Nat} {m : IS} (h : AtI c s p b q U m) (k : StpK ks s s') (h1 : 23 ∉ ks) (h2 : 40 ∉ ks) (h3 : 1000 ∉ ks) (h4 : 44 ∉ ks) (h5 : 5 ∉ ks) (h6 : 1 ∉ ks) (h7 : 15 ∉ ks) : AtI c s' p b q U m := by
  cases m with
  | seek cf ms n => obtain ⟨on, g1, g2⟩ := h; exact ⟨on, k.row g1 h1, g2.stp k h2 h3⟩
  | splice lv cf mp n => obtain ⟨on, g1, g2⟩ := h; exact ⟨on, k.row g1 h1, g2.stk k h4 h5 h6 h7⟩
  | walk lv on n => obtain ⟨pl, g1⟩ := h; exact ⟨pl, k.row g1 h1⟩
  | join => obtain ⟨pl, lv, on, n, g1⟩ := h; exact ⟨pl, lv, on, n, k.row g1 h1⟩
  | over e => obtain ⟨pl, lv, on, n, g1⟩ := h; exact ⟨pl, lv, on, n, k.row g1 h1⟩
theorem AtJ.stp {ks : List Nat} {c : IC} {s s' : St} {p d N : Nat} {m : IS} (h : AtJ c s p d N m) (k : StpK ks s s') (f : Fresh s) (h1 : 38 ∉ ks) (h2 : 39 ∉ ks) (h3 : 13 ∉ ks) (h4 : 48 ∉ ks) : AtJ c s' p d N m := by
  cases m with
  | seek cf ms n => obtain ⟨pp, on, r, wv, ws, g1, g2, g3⟩ := h; exact ⟨pp, on, r, wv, ws, k.row g1 h1, g2.stp k h2 h3 (k.2.2 f), g3⟩
  | splice lv cf mp n => obtain ⟨sp, on, r, V, mr, g1, g2, g3⟩ := h; exact ⟨sp, on, r, V, mr, k.row g1 h1, k.row g2 h4, g3⟩
  | walk lv on n => obtain ⟨sp, pp, r, g1⟩ := h; exact ⟨sp, pp, r, k.row g1 h1⟩
  | join => obtain ⟨lv, n, sp, pp, on, r, g1⟩ := h; exact ⟨lv, n, sp, pp, on, r, k.row g1 h1⟩
  | over e => obtain ⟨lv, n, sp, pp, on, g1⟩ := h; exact ⟨lv, n, sp, pp, on, k.row g1 h1⟩
theorem AtJ.le {c : IC} {s : St} {p d N M : Nat} {m : IS} (h : AtJ c s p d N m) (hn : N ≤ M) : AtJ c s p d M m := by
  cases m with
  | seek cf ms n => obtain ⟨pp, on, r, wv, ws, g1, g2, g3⟩ := h; exact ⟨pp, on, r, wv, ws, g1, g2, by omega⟩
  | _ => exact h
theorem has_ex {c : IC} {N : Nat} {m : IS} (hi : InvI c N m) (hN : N ≤ 90000) (a : Ans) : ∃ xo, HasC m a xo ∧ ∀ y, xo = some y → okK y.rk y.n := by
  cases m with
  | seek cf ms n =>
    obtain ⟨D, x', hch, hD⟩ := chase_ex ms.tab ms.wl ms.wb (cnt ms.tab a.r + 1) (curF ms).rk (curF ms).n a.r (by omega)
    have hcn : cnt ms.tab a.r ≤ ms.tab.length := List.length_filter_le _ _
    have := hi.2.2.2.2.2.1
    exact ⟨x', fun cf2 m2 n2 e => by cases e; exact ⟨D, hch, by unfold BIG; omega⟩, chase_ok hch⟩
  | splice lv cf mp n => exact ⟨none, fun _ _ _ e => (by cases e), fun r e => (by cases e)⟩
  | walk lv on n => exact ⟨none, fun _ _ _ e => (by cases e), fun r e => (by cases e)⟩
  | join => exact ⟨none, fun _ _ _ e => (by cases e), fun r e => (by cases e)⟩
  | over e => exact ⟨none, fun _ _ _ e => (by cases e), fun r e => (by cases e)⟩
structure Pre (c : IC) (v : Value) (l : List OpA) (p j : Nat) (m : IS) (s : St) : Prop where
  ex : ∃ b q U, AtI c s p b q U m
  inv : InvI c j m
  ho : IsO s v l
  pos : ∀ (j : Nat) o, l[j]? = some o → PosA o.a ∧ bx o.a.v = some [o.a.v]
  fr : Fresh s
theorem Pre.stp {ks : List Nat} {c : IC} {v : Value} {l : List OpA} {p j : Nat} {m : IS} {s s' : St} (h : Pre c v l p j m s) (k : StpK ks s s') (h1 : 23 ∉ ks) (h2 : 40 ∉ ks) (h3 : 1000 ∉ ks) (h4 : 44 ∉ ks) (h5 : 5 ∉ ks) (h6 : 1 ∉ ks) (h7 : 15 ∉ ks) (h8 : 14 ∉ ks) : Pre c v l p j m s' := by
  obtain ⟨b, q, U, g⟩ := h.ex
  exact ⟨⟨b, q, U, g.stp k h1 h2 h3 h4 h5 h6 h7⟩, h.inv, h.ho.stp k h8, h.pos, k.2.2 h.fr⟩
theorem Pre.tell {c : IC} {v : Value} {l : List OpA} {p j : Nat} {m : IS} {s : St} (hC : okI c) (hj : j ≤ 80000) (h : Pre c v l p j m s) {a : Ans} (ha : PosA a) :
    ∃ s' xo, iI_Tell.v (P p) (.agg ⟨a.cs⟩) s = some (unit', s') ∧ Pre c v l p (j + 1) (tellI c a xo m) s' ∧ StpK KI s s' ∧ HasC m a xo := by
  obtain ⟨xo, hx, px⟩ := has_ex h.inv (by omega) a
  obtain ⟨b, q, U, g⟩ := h.ex
  obtain ⟨s1, b1, q1, U1, e1, p1, k1⟩ := tell_i h.fr hC g h.inv a ha.1 hx
  exact ⟨s1, xo, e1, ⟨⟨b1, q1, U1, p1⟩, inv_tellI hC h.inv a px, h.ho.stp k1 (by simp), h.pos, k1.2.2 h.fr⟩, k1, hx⟩
theorem Pre.wake {c : IC} {v : Value} {l : List OpA} {p j : Nat} {m : IS} {s : St} (h : Pre c v l p j m s) :
    ∃ s', iI_Wake.v (P p) s = some (unit', s') ∧ Pre c v l p (j + 1) (wakeI m) s' ∧ StpK KI s s' := by
  obtain ⟨b, q, U, g⟩ := h.ex
  obtain ⟨s1, e1, p1, k1⟩ := wake_i h.fr g h.inv
  exact ⟨s1, e1, ⟨⟨b, q, U, p1⟩, (inv_wakeI h.inv).le (by omega), h.ho.stp k1 (by simp), h.pos, k1.2.2 h.fr⟩, k1⟩
theorem Pre.next {c : IC} {v : Value} {l : List OpA} {p j : Nat} {m : IS} {s : St} (hC : okI c) (h : Pre c v l p j m s) : iI_Next.v (P p) s = some (.agg ⟨nextI c m⟩, s) := by
  obtain ⟨b, q, U, g⟩ := h.ex
  exact next_i hC g h.inv
theorem inv_start {c : IC} (hC : okI c) : InvI c 0 (.seek c.sk (m0 c.sk) 1) := ⟨hC.1, rfl, rfl, inv_m0 hC.1, rfl, Nat.le_refl _, low_m0 hC.1, by omega⟩
end Go.Proofs.YteafgjpbfhjbjaaGreat
