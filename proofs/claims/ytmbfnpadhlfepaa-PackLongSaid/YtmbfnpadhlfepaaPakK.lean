/-
  Fields packed, as the program and the reference pack them.
-/
import Derived.Test.YtmbfnpadhlfepaaPakJ
set_option linter.unusedSimpArgs false
set_option linter.unusedVariables false
set_option maxRecDepth 100000
set_option maxHeartbeats 4000000
namespace Go.Proofs.Ytmbfnpadhlfepaa
open Go.Sim Go.Sim.Bt
attribute [local congr] bdc cndc itec gdc gdSc gdUc

/-- A field with its bytes. -/
abbrev FB := Fd × List Int
def okP (p : FB) : Prop := okF p.1 ⟨⟨bts p.2⟩⟩ p.2.length
/-- A slice of fields, that stays while all below `n` stays. -/
structure FL (n : Nat) (s : St) (v : Value) (fs : List FB) : Prop where
  rows : Pers n s fun s => IsR s 14 v (fs.map fun p => p.1.cs)
  els : ∀ p ∈ fs, FdA p.1 ∧ Pers n s fun s => Byt s p.1.b (br p.2)
theorem FL.to {n : Nat} {s s' : St} {v : Value} {fs : List FB} (h : FL n s v fs) (k : ∀ x, x < n → s'.get x = s.get x) : FL n s' v fs := ⟨h.rows.to k, fun p hp => ⟨(h.els p hp).1, (h.els p hp).2.to k⟩⟩
theorem FL.len {n : Nat} {s : St} {v : Value} {fs : List FB} (h : FL n s v fs) : lenL v = some (.int .i64 fs.length) := by
  have := h.rows.here.len
  rwa [List.length_map] at this
theorem FL.bx {n : Nat} {s : St} {v : Value} {fs : List FB} (h : FL n s v fs) : bx v = some [v] := h.rows.here.bx
theorem FL.at {n : Nat} {s : St} {v : Value} {fs : List FB} (h : FL n s v fs) {j : Nat} {p : FB} (hj : fs[j]? = some p) : ∃ q, idx s 14 v (.int .i64 (j : Int)) = some q ∧ lda s 14 q = some p.1.v := by
  obtain ⟨b, all, ro, h1, h2, h3⟩ := h.rows.here.at (j := j) (r := p.1.cs) (by rw [List.getElem?_map, hj]; rfl)
  exact ⟨_, h1, by rw [lda_row h2, h3]; rfl⟩
theorem FL.mem {n : Nat} {s : St} {v : Value} {fs : List FB} (h : FL n s v fs) {j : Nat} {p : FB} (hj : fs[j]? = some p) : FdA p.1 ∧ Pers n s fun s => Byt s p.1.b (br p.2) := h.els p (List.mem_of_getElem? hj)
theorem byt_b2s {s : St} {v : Value} {l : List Int} (h : Byt s v (br l)) : b2s s v = some (.string ⟨⟨bts l⟩⟩) := h.b2s _ (bytesOf_br l)
open Classical in
theorem pcheck {s : St} {f : Fd} {l : List Int} (a : FdA f) (h : Byt s f.b (br l)) : pack_Check.r f.v s = some (.int .i64 (if okP (f, l) then 0 else 30)) := by
  have hl := h.lenL
  rw [br_length] at hl
  exact check_r f s h.bx (byt_b2s h) hl a.vb a.rb
open Classical in
theorem rcheck {s : St} {f : Fd} {l : List Int} (a : FdA f) (h : Byt s f.b (br l)) : leapfrogref03x_Check.r f.v s = some (.int .i64 (if okP (f, l) then 0 else 30)) := by
  have hl := h.lenL
  rw [br_length] at hl
  exact rcheck_r f s h.bx (byt_b2s h) hl a.vb a.rb

def wBs : List FB → List Int
  | [] => []
  | p :: r => wB p.1 p.2 ++ wBs r
open Classical in
theorem chkloop {n : Nat} {s : St} {v : Value} {fs : List FB} (h : FL n s v fs) (hb : fs.length ≤ 1000) : ∀ (d j : Nat), j + d = fs.length → ∀ e, iter (pack_Pack.l2 std) (e + d + 1) [v, v, .int .i64 (fs.length : Int), .int .i64 (j : Int)] s
    = if ∀ p ∈ fs.drop j, okP p then some (0, [v], s) else some (1, [nilB, .int .i64 30], s)
  | 0, j, hj, e => by
    have : j = fs.length := by omega
    subst this
    have lt1 : bin .lss (.int .i64 (fs.length : Int)) (.int .i64 (fs.length : Int)) = some (.bool false) := by
      rw [bin_lss, decide_eq_false (by omega)]
    rw [iter_succ, if_pos (by intro p hp; simp at hp)]
    unfold pack_Pack.l2
    simp only [std_bd, std_cnd, List.getD_cons_zero, List.getD_cons_succ, lt1, bds, cnd]
  | d + 1, j, hj, e => by
    have ih := chkloop h hb d (j + 1) (by omega) e
    obtain ⟨p, hp⟩ := get_some (l := fs) (j := j) (by omega)
    obtain ⟨q, q1, q2⟩ := h.at hp
    obtain ⟨a1, a2⟩ := h.mem hp
    have hc := pcheck a1 a2.here
    have lt0 : bin .lss (.int .i64 (j : Int)) (.int .i64 (fs.length : Int)) = some (.bool true) := by
      rw [bin_lss, decide_eq_true (by omega)]
    have add0 : bin .add (.int .i64 (j : Int)) (.int .i64 1) = some (.int .i64 ((j + 1 : Nat) : Int)) := by
      rw [bin_add, wrap64 (by omega) (by omega)]; rfl
    have hz : bx (.agg #[(.int .i64 0), (.int .u64 0), (.int .i64 0), (.bool false), (.slice none 0 0), (.int .i64 0), (.int .u64 0), (.int .i64 0), (.int .u64 0), (.int .i64 0), (.int .i64 0), (.int .u64 0), (.int .i64 0), (.int .u64 0)]) = some [(.int .i64 0), (.int .u64 0), (.int .i64 0), (.bool false), (.slice none 0 0), (.int .i64 0), (.int .u64 0), (.int .i64 0), (.int .u64 0), (.int .i64 0), (.int .i64 0), (.int .u64 0), (.int .i64 0), (.int .u64 0)] := rfl
    have hst : ∀ a0 a1 a2 a3 a4 a5 a6 a7 a8 a9 a10 a11 a12 a13 : Value, stl [a0, a1, a2, a3, a4, a5, a6, a7, a8, a9, a10, a11, a12, a13] 0 14 p.1.v = some p.1.cs := fun _ _ _ _ _ _ _ _ _ _ _ _ _ _ => rfl
    have hal : lal p.1.cs 0 14 = some p.1.v := rfl
    rw [show e + (d + 1) + 1 = (e + d + 1) + 1 by omega, iter_succ, drop_get hp]
    unfold pack_Pack.l2
    by_cases ok : okP p
    · rw [if_pos ok] at hc
      have eq0 : eqb [1] false true (.int .i64 0) (.int .i64 0) = some (.bool false) := rfl
      simp only [std_bd, std_cnd, List.getD_cons_zero, List.getD_cons_succ, lt0, q1, q2, hz, hst, hal, hc, eq0, add0, bds, cnd]
      simp only [List.mem_cons, forall_eq_or_imp, ok, true_and]
      exact ih
    · rw [if_neg ok] at hc
      have eq0 : eqb [1] false true (.int .i64 30) (.int .i64 0) = some (.bool true) := rfl
      simp only [std_bd, std_cnd, List.getD_cons_zero, List.getD_cons_succ, lt0, q1, q2, hz, hst, hal, hc, eq0, add0, bds, cnd]
      simp only [List.mem_cons, forall_eq_or_imp, ok, false_and, if_false]
      rfl
open Classical in
theorem rchkloop {n : Nat} {s : St} {v : Value} {fs : List FB} (h : FL n s v fs) (hb : fs.length ≤ 1000) : ∀ (d j : Nat), j + d = fs.length → ∀ e, iter (leapfrogref03x_Pack.l2 std) (e + d + 1) [v, .int .i64 (j : Int)] s
    = if ∀ p ∈ fs.drop j, okP p then some (0, [v], s) else some (1, [nilB, .int .i64 30], s)
  | 0, j, hj, e => by
    have : j = fs.length := by omega
    subst this
    have hl := h.len
    have lt1 : bin .lss (.int .i64 (fs.length : Int)) (.int .i64 (fs.length : Int)) = some (.bool false) := by
      rw [bin_lss, decide_eq_false (by omega)]
    rw [iter_succ, if_pos (by intro p hp; simp at hp)]
    unfold leapfrogref03x_Pack.l2
    simp only [std_bd, std_cnd, List.getD_cons_zero, List.getD_cons_succ, hl, lt1, bds, cnd]
  | d + 1, j, hj, e => by
    have ih := rchkloop h hb d (j + 1) (by omega) e
    have hl := h.len
    obtain ⟨p, hp⟩ := get_some (l := fs) (j := j) (by omega)
    obtain ⟨q, q1, q2⟩ := h.at hp
    obtain ⟨a1, a2⟩ := h.mem hp
    have hc := rcheck a1 a2.here
    have lt0 : bin .lss (.int .i64 (j : Int)) (.int .i64 (fs.length : Int)) = some (.bool true) := by
      rw [bin_lss, decide_eq_true (by omega)]
    have add0 : bin .add (.int .i64 (j : Int)) (.int .i64 1) = some (.int .i64 ((j + 1 : Nat) : Int)) := by
      rw [bin_add, wrap64 (by omega) (by omega)]; rfl
    rw [show e + (d + 1) + 1 = (e + d + 1) + 1 by omega, iter_succ, drop_get hp]
    unfold leapfrogref03x_Pack.l2
    by_cases ok : okP p
    · rw [if_pos ok] at hc
      have eq0 : eqb [1] false true (.int .i64 0) (.int .i64 0) = some (.bool false) := rfl
      simp only [std_bd, std_cnd, List.getD_cons_zero, List.getD_cons_succ, hl, lt0, q1, q2, hc, eq0, add0, bds, cnd]
      simp only [List.mem_cons, forall_eq_or_imp, ok, true_and]
      exact ih
    · rw [if_neg ok] at hc
      have eq0 : eqb [1] false true (.int .i64 30) (.int .i64 0) = some (.bool true) := rfl
      simp only [std_bd, std_cnd, List.getD_cons_zero, List.getD_cons_succ, hl, lt0, q1, q2, hc, eq0, add0, bds, cnd]
      simp only [List.mem_cons, forall_eq_or_imp, ok, false_and, if_false]
      rfl

theorem wrloop {n b n0 : Nat} {s0 : St} {v : Value} {fs : List FB} (h : FL n s0 v fs) (hnb : n ≤ b) (hb : fs.length ≤ 1000) (hok : ∀ p ∈ fs, okP p) : ∀ (d j : Nat), j + d = fs.length → ∀ {s : St} {m : List Int}, WrAt b n0 s m → (∀ x, x < n → s.get x = s0.get x) → m.length + 65600 * d ≤ 140737488355328 →
    ∃ s', (∀ e, iter (pack_Pack.l10 std) (e + d + 1) [wpt b, v, .int .i64 (fs.length : Int), .int .i64 (j : Int)] s = some (0, [wpt b], s')) ∧ WrAt b n0 s' (m ++ wBs (fs.drop j)) ∧ WSt b n0 s s'
  | 0, j, hj, s, m, hw, hk, hl => by
    have : j = fs.length := by omega
    subst this
    refine ⟨s, fun e => ?_, by simpa [wBs] using hw, .refl _ _ _⟩
    have lt1 : bin .lss (.int .i64 (fs.length : Int)) (.int .i64 (fs.length : Int)) = some (.bool false) := by
      rw [bin_lss, decide_eq_false (by omega)]
    rw [iter_succ]
    unfold pack_Pack.l10
    simp only [std_bd, std_cnd, List.getD_cons_zero, List.getD_cons_succ, lt1, bds, cnd]
  | d + 1, j, hj, s, m, hw, hk, hl => by
    have hs := h.to hk
    obtain ⟨p, hp⟩ := get_some (l := fs) (j := j) (by omega)
    obtain ⟨q, q1, q2⟩ := hs.at hp
    obtain ⟨a1, a2⟩ := hs.mem hp
    have ok := hok p (List.mem_of_getElem? hp)
    have hlen := wB_len a1 ok
    have hl0 : m.length + 65600 ≤ 140737488355328 := by
      rw [Nat.mul_succ] at hl
      exact Nat.le_trans (by rw [← Nat.add_assoc] at hl; have := Nat.le_add_right (m.length) (65600 * d); omega) hl
    obtain ⟨s1, g1, g2, g3⟩ := field_w a1 ok a2 hnb hw hl0
    have hnn := hw.lt
    obtain ⟨s', k1, k2, k3⟩ := wrloop h hnb hb hok d (j + 1) (by omega) g2 (fun x hx => (g3.keep x (by omega) (by omega)).trans (hk x hx)) (by simp; omega)
    refine ⟨s', fun e => ?_, by rw [drop_get hp, wBs, ← List.append_assoc]; exact k2, g3.trans k3⟩
    have lt0 : bin .lss (.int .i64 (j : Int)) (.int .i64 (fs.length : Int)) = some (.bool true) := by
      rw [bin_lss, decide_eq_true (by omega)]
    have add0 : bin .add (.int .i64 (j : Int)) (.int .i64 1) = some (.int .i64 ((j + 1 : Nat) : Int)) := by
      rw [bin_add, wrap64 (by omega) (by omega)]; rfl
    have hz : bx (.agg #[(.int .i64 0), (.int .u64 0), (.int .i64 0), (.bool false), (.slice none 0 0), (.int .i64 0), (.int .u64 0), (.int .i64 0), (.int .u64 0), (.int .i64 0), (.int .i64 0), (.int .u64 0), (.int .i64 0), (.int .u64 0)]) = some [(.int .i64 0), (.int .u64 0), (.int .i64 0), (.bool false), (.slice none 0 0), (.int .i64 0), (.int .u64 0), (.int .i64 0), (.int .u64 0), (.int .i64 0), (.int .i64 0), (.int .u64 0), (.int .i64 0), (.int .u64 0)] := rfl
    have hst : ∀ a0 a1 a2 a3 a4 a5 a6 a7 a8 a9 a10 a11 a12 a13 : Value, stl [a0, a1, a2, a3, a4, a5, a6, a7, a8, a9, a10, a11, a12, a13] 0 14 p.1.v = some p.1.cs := fun _ _ _ _ _ _ _ _ _ _ _ _ _ _ => rfl
    have hal : lal p.1.cs 0 14 = some p.1.v := rfl
    rw [show e + (d + 1) + 1 = (e + d + 1) + 1 by omega, iter_succ]
    unfold pack_Pack.l10
    simp only [std_bd, std_cnd, List.getD_cons_zero, List.getD_cons_succ, lt0, q1, q2, hz, hst, hal, g1, add0, bds, cnd]
    exact k1 e
theorem rwrloop {n : Nat} {s0 : St} {v : Value} {fs : List FB} (h : FL n s0 v fs) (hnb : n ≤ s0.n) (hb : fs.length ≤ 1000) (hok : ∀ p ∈ fs, okP p) : ∀ (d j : Nat), j + d = fs.length → ∀ {s : St} {u : Value} {m : List Int}, Fresh s → Ful s0.n s 1 u (br m) → More s0 s → m.length + 65600 * d ≤ 140737488355328 →
    ∃ u' s', (∀ e, iter (leapfrogref03x_Pack.l8 std) (e + d + 1) [v, u, .int .i64 (j : Int)] s = some (0, [u'], s')) ∧ More s0 s' ∧ Ful s0.n s' 1 u' (br (m ++ wBs (fs.drop j))) ∧ Fresh s'
  | 0, j, hj, s, u, m, hf, hw, hk, hl => by
    have : j = fs.length := by omega
    subst this
    refine ⟨u, s, fun e => ?_, hk, by simpa [wBs] using hw, hf⟩
    have hlen := (h.to (fun x hx => hk.old x (by omega))).len
    have lt1 : bin .lss (.int .i64 (fs.length : Int)) (.int .i64 (fs.length : Int)) = some (.bool false) := by
      rw [bin_lss, decide_eq_false (by omega)]
    rw [iter_succ]
    unfold leapfrogref03x_Pack.l8
    simp only [std_bd, std_cnd, List.getD_cons_zero, List.getD_cons_succ, hlen, lt1, bds, cnd]
  | d + 1, j, hj, s, u, m, hf, hw, hk, hl => by
    have hs := h.to (fun x hx => hk.old x (by omega))
    have hlen := hs.len
    obtain ⟨p, hp⟩ := get_some (l := fs) (j := j) (by omega)
    obtain ⟨q, q1, q2⟩ := hs.at hp
    obtain ⟨a1, a2⟩ := hs.mem hp
    have ok := hok p (List.mem_of_getElem? hp)
    have hlenB := wB_len a1 ok
    have hkn := hk.n
    obtain ⟨w, s1, g1, g2, g3, g4⟩ := one_v a1 ok a2 (by omega) hf
    obtain ⟨u1, s2, c1, c2, c3, c4⟩ := br_app g4 (hw.more g2 hf) g3 (hk.trans g2) (by omega)
    obtain ⟨u', s', k1, k2, k3, k4⟩ := rwrloop h hnb hb hok d (j + 1) (by omega) c4 c3 c2 (by simp; omega)
    refine ⟨u', s', fun e => ?_, k2, by rw [drop_get hp, wBs, ← List.append_assoc]; exact k3, k4⟩
    have lt0 : bin .lss (.int .i64 (j : Int)) (.int .i64 (fs.length : Int)) = some (.bool true) := by
      rw [bin_lss, decide_eq_true (by omega)]
    have add0 : bin .add (.int .i64 (j : Int)) (.int .i64 1) = some (.int .i64 ((j + 1 : Nat) : Int)) := by
      rw [bin_add, wrap64 (by omega) (by omega)]; rfl
    rw [show e + (d + 1) + 1 = (e + d + 1) + 1 by omega, iter_succ]
    unfold leapfrogref03x_Pack.l8
    simp only [std_bd, std_cnd, List.getD_cons_zero, List.getD_cons_succ, hlen, lt0, q1, q2, g1, c1, add0, bds, cnd]
    exact k1 e

open Classical in
noncomputable def outB (fs : List FB) : List Int := if ∀ p ∈ fs, okP p then wBs fs else []
open Classical in
noncomputable def outE (fs : List FB) : Int := if ∀ p ∈ fs, okP p then 0 else 30
/-- What Pack answers. -/
def PackIs (s : St) (fs : List FB) (r : Option (Value × St)) : Prop := ∃ w s', r = some (.tuple ⟨[w, .int .i64 (outE fs)]⟩, s') ∧ More s s' ∧ Ful s.n s' 1 w (br (outB fs)) ∧ Fresh s'
theorem pack_v {n : Nat} {s : St} {v : Value} {fs : List FB} (h : FL n s v fs) (hn : n ≤ s.n) (hb : fs.length ≤ 1000) (hf : Fresh s) : PackIs s fs (pack_Pack.v v s) := by
  have q := chkloop h hb fs.length 0 (by omega) (BIG - fs.length - 1)
  rw [show BIG - fs.length - 1 + fs.length + 1 = BIG by unfold BIG; omega, List.drop_zero] at q
  have q : iter (pack_Pack.l2 std) BIG [v, v, .int .i64 (fs.length : Int), .int .i64 0] s = _ := q
  have hlen := h.len
  unfold PackIs outE outB
  by_cases ok : ∀ p ∈ fs, okP p
  · rw [if_pos ok] at q
    rw [if_pos ok, if_pos ok]
    have hbl : bld [.slice none 0 0] [] = some (.agg ⟨[nilB]⟩) := rfl
    have hav : alv s (.agg ⟨[nilB]⟩) = some (wpt s.n, s.new (.row 1 [[nilB]] false)) := rfl
    have m1 : More s (s.new (.row 1 [[nilB]] false)) := .new
    have hw : WrAt s.n (s.n + 1) (s.new (.row 1 [[nilB]] false)) [] := ⟨hf.new, Nat.lt_succ_self _, Nat.le_refl _, nilB, get_new_same, .inl ⟨rfl, rfl⟩⟩
    generalize s.new (.row 1 [[nilB]] false) = s1 at *
    obtain ⟨s2, k1, k2, k3⟩ := wrloop (h.to (fun x hx => m1.old x (by omega))) hn hb ok fs.length 0 (by omega) hw (fun _ _ => rfl) (by simp; omega)
    have k := k1 (BIG - fs.length - 1)
    rw [show BIG - fs.length - 1 + fs.length + 1 = BIG by unfold BIG; omega] at k
    have k : iter (pack_Pack.l10 std) BIG [wpt s.n, v, .int .i64 (fs.length : Int), .int .i64 0] s1 = _ := k
    obtain ⟨w, k4, k5⟩ := k2.at_
    have e7 : nck (wpt s.n) = some (wpt s.n) := rfl
    have e8 : fld 0 (wpt s.n) = some (wpt s.n) := rfl
    have e9 : ldc s2 (wpt s.n) = some w := by rw [wpt, ldc_row k4]; rfl
    refine ⟨w, s2, ?_, ⟨?_, fun x hx => ?_, fun _ => k2.fr⟩, by simpa using k5.le (Nat.le_succ _), k2.fr⟩
    · unfold pack_Pack.v pack_Pack.t
      simp only [std_bd, std_cnd, std_it, hlen, q, bds, if_true, List.getD_cons_zero, hbl, hav, k, e7, e8, e9]
    · have := k3.n; have := m1.n; omega
    · rw [k3.keep x (by omega) (by omega), m1.old x hx]
  · rw [if_neg ok] at q
    rw [if_neg ok, if_neg ok]
    refine ⟨nilB, s, ?_, .refl _, .inl ⟨rfl, rfl⟩, hf⟩
    unfold pack_Pack.v pack_Pack.t
    simp only [std_bd, std_cnd, std_it, hlen, q, bds]
    rfl
theorem rpack_v {n : Nat} {s : St} {v : Value} {fs : List FB} (h : FL n s v fs) (hn : n ≤ s.n) (hb : fs.length ≤ 1000) (hf : Fresh s) : PackIs s fs (leapfrogref03x_Pack.v v s) := by
  have q := rchkloop h hb fs.length 0 (by omega) (BIG - fs.length - 1)
  rw [show BIG - fs.length - 1 + fs.length + 1 = BIG by unfold BIG; omega, List.drop_zero] at q
  have q : iter (leapfrogref03x_Pack.l2 std) BIG [v, .int .i64 0] s = _ := q
  unfold PackIs outE outB
  by_cases ok : ∀ p ∈ fs, okP p
  · rw [if_pos ok] at q
    rw [if_pos ok, if_pos ok]
    obtain ⟨w, s2, k1, k2, k3, k4⟩ := rwrloop h hn hb ok fs.length 0 (by omega) hf (u := nilB) (m := []) (.inl ⟨rfl, rfl⟩) (.refl _) (by simp; omega)
    have k := k1 (BIG - fs.length - 1)
    rw [show BIG - fs.length - 1 + fs.length + 1 = BIG by unfold BIG; omega] at k
    have k : iter (leapfrogref03x_Pack.l8 std) BIG [v, .slice none 0 0, .int .i64 0] s = _ := k
    refine ⟨w, s2, ?_, k2, by simpa using k3, k4⟩
    unfold leapfrogref03x_Pack.v leapfrogref03x_Pack.t
    simp only [std_bd, std_cnd, std_it, q, bds, if_true, List.getD_cons_zero, k]
  · rw [if_neg ok] at q
    rw [if_neg ok, if_neg ok]
    refine ⟨nilB, s, ?_, .refl _, .inl ⟨rfl, rfl⟩, hf⟩
    unfold leapfrogref03x_Pack.v leapfrogref03x_Pack.t
    simp only [std_bd, std_cnd, std_it, q, bds]
    rfl
end Go.Proofs.Ytmbfnpadhlfepaa
