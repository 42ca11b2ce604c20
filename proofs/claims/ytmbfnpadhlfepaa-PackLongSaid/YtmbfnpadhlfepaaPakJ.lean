/-
  A field, as the writer and the reference write it.
-/
import Derived.Test.YtmbfnpadhlfepaaPakI
set_option linter.unusedSimpArgs false
set_option linter.unusedVariables false
set_option maxRecDepth 100000
set_option maxHeartbeats 4000000
namespace Go.Proofs.Ytmbfnpadhlfepaa
open Go.Sim Go.Sim.Bt
attribute [local congr] bdc cndc itec gdc gdSc gdUc

/-- The numbers of a field are ones that the language has. -/
structure FdA (f : Fd) : Prop where
  n0 : 0 ≤ f.n
  n1 : f.n < 18446744073709551616
  i0 : -9223372036854775808 ≤ f.i
  i1 : f.i ≤ 9223372036854775807
  vb : 0 ≤ f.vb
  kn0 : 0 ≤ f.kn
  kn1 : f.kn < 18446744073709551616
  d0 : -9223372036854775808 ≤ f.id
  d1 : f.id ≤ 9223372036854775807
  rn0 : 0 ≤ f.rn
  rn1 : f.rn < 18446744073709551616
  rb : 0 ≤ f.rb
/-- What holds in every memory that is alike below `n`. -/
def Pers (n : Nat) (s : St) (P : St → Prop) : Prop := ∀ s', (∀ x, x < n → s'.get x = s.get x) → P s'
theorem Pers.here {n : Nat} {s : St} {P : St → Prop} (h : Pers n s P) : P s := h s fun _ _ => rfl
theorem Pers.to {n : Nat} {s s' : St} {P : St → Prop} (h : Pers n s P) (k : ∀ x, x < n → s'.get x = s.get x) : Pers n s' P := fun s'' h'' => h s'' fun x hx => (h'' x hx).trans (k x hx)

/-- A field's bytes. -/
def wB (f : Fd) (l : List Int) : List Int :=
  if f.k = 1 then numB f.n.toNat else if f.k = 2 then numB (zz f.i) else if f.k = 3 then [if f.t then 1 else 0] else if f.k = 4 then numB l.length ++ l
  else if f.k = 5 then vecB f.vl.toNat f.vb.toNat else if f.k = 6 then keyB f.kr f.kn.toNat else (numB (zz f.id) ++ keyB f.rr f.rn.toNat) ++ vecB f.rl.toNat f.rb.toNat
theorem wB_len {f : Fd} {l : List Int} {x : ByteArray} (a : FdA f) (h : okF f x l.length) : (wB f l).length ≤ 65600 := by
  have a1 := a.n0; have a2 := a.n1; have a3 := a.i0; have a4 := a.i1; have a5 := a.d0; have a6 := a.d1
  have hv : ∀ {L B : Int}, okV L B → (vecB L.toNat B.toNat).length ≤ 5 := by
    rintro L B ⟨n, b, rfl, rfl, h1, h2⟩
    rw [vecB_len]; simp only [Int.toNat_natCast]; omega
  unfold wB
  split
  · have := numB_le (x := f.n.toNat) (by omega); omega
  · split
    · have := numB_le (zz_lt a3 a4); omega
    · split
      · simp
      · split
        · rename_i h4
          have := h.2.2.1 h4
          have := numB_le (x := l.length) (by omega)
          simp; omega
        · split
          · rename_i h5
            have := hv (h.2.2.2.1 h5); omega
          · split
            · have := keyB_len f.kr f.kn.toNat; omega
            · rename_i h1 h2 h3 h4 h5 h6
              have h7 : f.k = 7 := by have := h.1.1; have := h.1.2; omega
              have := hv (h.2.2.2.2.2 h7).2
              have := keyB_len f.rr f.rn.toNat
              have := numB_le (zz_lt a5 a6)
              simp; omega

/-- Many bytes more. -/
theorem wr_app {b n0 : Nat} {s : St} {l m : List Int} (h : WrAt b n0 s l) (hl : l.length + m.length ≤ 140737488355328) {w : Value} (hw : lenV w = some m.length) (hr : rowsOf s 1 m.length w = some (br m)) :
    ∃ v, ldc s (wpt b) = some v ∧ ∃ v' s' s'', app s 1 1 v w = some (v', s') ∧ stv s' 1 (wpt b) v' = some s'' ∧ WrAt b n0 s'' (l ++ m) ∧ WSt b n0 s s'' := by
  obtain ⟨v, hg, hv⟩ := h.at_
  refine ⟨v, by rw [wpt, ldc_row hg]; rfl, ?_⟩
  have mo : More ⟨s.h, n0⟩ s := ⟨h.le, fun _ _ => rfl, fun _ => h.fr⟩
  obtain ⟨v', s', h1, h2, h3, h4⟩ := app_ful (s0 := ⟨s.h, n0⟩) (news := br m) h.fr hv mo (by rw [br_length]; exact hw) (by rw [br_length]; exact hr) (by rw [br_length, br_length]; exact hl)
  have hg' : s'.get b = some (.row 1 [[v]] false) := (h2.old b h.lt).trans hg
  have hbx : bx v' = some [v'] := h3.isR.bx
  have hn : s.n ≤ s'.n := by
    have : ∀ {a : Option (Value × St)}, a = app s 1 1 v w → ∀ p, a = some p → s.n ≤ p.2.n := by
      intro a ha p hp
      rw [ha] at hp
      unfold app at hp
      repeat' (split at hp <;> try cases hp)
      all_goals first | exact Nat.le_refl _ | (simp only [new_n, put_n, del_n]; omega)
    exact this h1.symm _ rfl
  refine ⟨v', s', s'.put b (.row 1 [[v']] false), h1, ?_, ⟨h4.put, h.lt, h2.n, v', get_put_same hg', ?_⟩, ⟨hn, fun x hx hne => ?_⟩⟩
  · rw [wpt, stv_row hg', hbx]; rfl
  · rw [br_append]
    rcases h3 with ⟨e1, e2⟩ | ⟨c, e, e0, e1, e2, e3⟩
    · exact .inl ⟨e1, e2⟩
    · exact .inr ⟨c, e, e0, e1, by rw [get_put_ne (by have := h.lt; simp only at e0; omega)]; exact e2, e3⟩
  · rw [get_put_ne hne]
    exact h2.old x hx
theorem len_u64 (n : Nat) (h : n ≤ 65536) : cvi .u64 (.int .i64 (n : Int)) = some (.int .u64 (n : Int)) := by
  rw [cvi_int, wrapu64 (by omega) (by omega)]

/-- The writer writes a field that may be. -/
theorem field_w {b n0 n1 : Nat} {s : St} {m : List Int} {f : Fd} {l : List Int} {x : ByteArray} (a : FdA f) (ok : okF f x l.length) (hb : Pers n1 s fun s => Byt s f.b (br l)) (hn : n1 ≤ b) (h : WrAt b n0 s m) (hl : m.length + 65600 ≤ 140737488355328) :
    ∃ s', pack_writer_field.v (wpt b) f.v s = some (.tuple ⟨[]⟩, s') ∧ WrAt b n0 s' (m ++ wB f l) ∧ WSt b n0 s s' := by
  obtain ⟨f1, f2, f3, f4, f5, f6, f7, f8, f9, f10, f11, f12⟩ := a
  have e7 : nck (wpt b) = some (wpt b) := rfl
  have e8 : fld 0 (wpt b) = some (wpt b) := rfl
  have k1 := ok.1.1
  have k2 := ok.1.2
  have c : f.k = 1 ∨ f.k = 2 ∨ f.k = 3 ∨ f.k = 4 ∨ f.k = 5 ∨ f.k = 6 ∨ f.k = 7 := by omega
  rcases c with c | c | c | c | c | c | c
  · obtain ⟨n, hn⟩ : ∃ n : Nat, f.n = n := ⟨f.n.toNat, by omega⟩
    obtain ⟨s', h1, h2, h3⟩ := number_w n (by omega) h (by omega)
    refine ⟨s', ?_, by unfold wB; rw [if_pos c, hn]; exact h2, h3⟩
    simp only [pack_writer_field.v, pack_writer_field.t, Fd.v, Fd.cs, sy, reduceIte, Nat.reduceAdd, Nat.reduceLeDiff, Nat.reduceLT, Nat.reduceEqDiff, Int.reduceEq, Int.reduceLT, Int.reduceLE, Int.reduceNe, ly, c, hn, h1]
  · obtain ⟨s', h1, h2, h3⟩ := int_w f3 f4 h (by omega)
    refine ⟨s', ?_, by unfold wB; rw [if_neg (by omega), if_pos c]; exact h2, h3⟩
    simp only [pack_writer_field.v, pack_writer_field.t, Fd.v, Fd.cs, sy, reduceIte, Nat.reduceAdd, Nat.reduceLeDiff, Nat.reduceLT, Nat.reduceEqDiff, Int.reduceEq, Int.reduceLT, Int.reduceLE, Int.reduceNe, ly, c, h1]
  · obtain ⟨v, hv, hstep⟩ := wr_step h (by omega)
    obtain ⟨v', s1, s2, p1, p2, p3, p4⟩ := hstep (if f.t then 1 else 0)
    refine ⟨s2, ?_, by unfold wB; rw [if_neg (by omega), if_neg (by omega), if_pos c]; exact p3, p4⟩
    simp only [u8] at p1
    cases ht : f.t
    · simp only [ht] at p1
      simp only [Bool.false_eq_true, if_false] at p1
      simp only [pack_writer_field.v, pack_writer_field.t, Fd.v, Fd.cs, sy, reduceIte, Nat.reduceAdd, Nat.reduceLeDiff, Nat.reduceLT, Nat.reduceEqDiff, Int.reduceEq, Int.reduceLT, Int.reduceLE, Int.reduceNe, ly, c, ht, e7, e8, hv, als_eq, p1, p2]
    · simp only [ht] at p1
      simp only [if_true] at p1
      simp only [pack_writer_field.v, pack_writer_field.t, Fd.v, Fd.cs, sy, reduceIte, Nat.reduceAdd, Nat.reduceLeDiff, Nat.reduceLT, Nat.reduceEqDiff, Int.reduceEq, Int.reduceLT, Int.reduceLE, Int.reduceNe, ly, c, ht, e7, e8, hv, als_eq, p1, p2]
  · have hln := ok.2.2.1 c
    obtain ⟨s1, h1, h2, h3⟩ := number_w l.length (by omega) h (by omega)
    have hb1 := (hb.to fun x hx => h3.keep x (by have := h.lt; omega) (by omega)).here
    have hlen := hb.here.lenL
    have hrow := hb1.rows
    have hlv := hb1.len
    rw [br_length] at hlen hrow hlv
    have hnl := numB_le (x := l.length) (by omega)
    obtain ⟨v, hv, v', s2, s3, p1, p2, p3, p4⟩ := wr_app h2 (m := l) (by simp; omega) hlv hrow
    refine ⟨s3, ?_, by unfold wB; rw [if_neg (by omega), if_neg (by omega), if_neg (by omega), if_pos c, ← List.append_assoc]; exact p3, h3.trans p4⟩
    have hu := len_u64 l.length hln
    have hw : IntKind.u64.wrap ((l.length : Nat) : Int) = (l.length : Int) := wrapu64 (by omega) (by omega)
    simp only [pack_writer_field.v, pack_writer_field.t, Fd.v, Fd.cs, sy, reduceIte, Nat.reduceAdd, Nat.reduceLeDiff, Nat.reduceLT, Nat.reduceEqDiff, Int.reduceEq, Int.reduceLT, Int.reduceLE, Int.reduceNe, ly, c, hlen, hw, h1, e7, e8, hv, p1, p2]
  · obtain ⟨L, B, hL, hB, g1, g2⟩ := ok.2.2.2.1 c
    obtain ⟨s', h1, h2, h3⟩ := vec_w g1 g2 h (by omega)
    refine ⟨s', ?_, by unfold wB; rw [if_neg (by omega), if_neg (by omega), if_neg (by omega), if_neg (by omega), if_pos c, hL, hB]; exact h2, h3⟩
    simp only [pack_writer_field.v, pack_writer_field.t, Fd.v, Fd.cs, sy, reduceIte, Nat.reduceAdd, Nat.reduceLeDiff, Nat.reduceLT, Nat.reduceEqDiff, Int.reduceEq, Int.reduceLT, Int.reduceLE, Int.reduceNe, ly, c, hL, hB, h1]
  · obtain ⟨n, hn⟩ : ∃ n : Nat, f.kn = n := ⟨f.kn.toNat, by omega⟩
    obtain ⟨s', h1, h2, h3⟩ := key_w f.kr n h (by omega)
    refine ⟨s', ?_, by unfold wB; rw [if_neg (by omega), if_neg (by omega), if_neg (by omega), if_neg (by omega), if_neg (by omega), if_pos c, hn]; exact h2, h3⟩
    simp only [pack_writer_field.v, pack_writer_field.t, Fd.v, Fd.cs, sy, reduceIte, Nat.reduceAdd, Nat.reduceLeDiff, Nat.reduceLT, Nat.reduceEqDiff, Int.reduceEq, Int.reduceLT, Int.reduceLE, Int.reduceNe, ly, c, hn, h1]
  · obtain ⟨L, B, hL, hB, g1, g2⟩ := (ok.2.2.2.2.2 c).2
    obtain ⟨n, hn⟩ : ∃ n : Nat, f.rn = n := ⟨f.rn.toNat, by omega⟩
    have y1 := numB_le (zz_lt f8 f9)
    have y2 := keyB_len f.rr n
    obtain ⟨s1, h1, h2, h3⟩ := int_w f8 f9 h (by omega)
    obtain ⟨s2, i1, i2, i3⟩ := key_w f.rr n h2 (by simp; omega)
    obtain ⟨s', j1, j2, j3⟩ := vec_w g1 g2 i2 (by simp; omega)
    refine ⟨s', ?_, by
      unfold wB
      rw [if_neg (by omega), if_neg (by omega), if_neg (by omega), if_neg (by omega), if_neg (by omega), if_neg (by omega), hn, hL, hB]
      simpa [List.append_assoc] using j2, (h3.trans i3).trans j3⟩
    simp only [pack_writer_field.v, pack_writer_field.t, Fd.v, Fd.cs, sy, reduceIte, Nat.reduceAdd, Nat.reduceLeDiff, Nat.reduceLT, Nat.reduceEqDiff, Int.reduceEq, Int.reduceLT, Int.reduceLE, Int.reduceNe, ly, c, hn, hL, hB, h1, i1, j1]

/-- The reference's bytes of a field that may be. -/
theorem one_v {n1 : Nat} {s : St} {f : Fd} {l : List Int} {x : ByteArray} (a : FdA f) (ok : okF f x l.length) (hb : Pers n1 s fun s => Byt s f.b (br l)) (hn : n1 ≤ s.n) (hf : Fresh s) :
    Mk s (leapfrogref03x_one.v f.v s) (wB f l) := by
  obtain ⟨f1, f2, f3, f4, f5, f6, f7, f8, f9, f10, f11, f12⟩ := a
  have k1 := ok.1.1
  have k2 := ok.1.2
  have c : f.k = 1 ∨ f.k = 2 ∨ f.k = 3 ∨ f.k = 4 ∨ f.k = 5 ∨ f.k = 6 ∨ f.k = 7 := by omega
  rcases c with c | c | c | c | c | c | c
  · obtain ⟨n, hn⟩ : ∃ n : Nat, f.n = n := ⟨f.n.toNat, by omega⟩
    obtain ⟨v, s', h1, h2⟩ := rnumber_v (s := s) n (by omega) hf
    refine ⟨v, s', ?_, by unfold wB; rw [if_pos c, hn]; exact h2⟩
    simp only [leapfrogref03x_one.v, leapfrogref03x_one.t, Fd.v, Fd.cs, sy, reduceIte, Nat.reduceAdd, Nat.reduceLeDiff, Nat.reduceLT, Nat.reduceEqDiff, Int.reduceEq, Int.reduceLT, Int.reduceLE, Int.reduceNe, ly, c, hn, h1]
  · obtain ⟨v, s', h1, h2⟩ := rwhole_v (s := s) f3 f4 hf
    refine ⟨v, s', ?_, by unfold wB; rw [if_neg (by omega), if_pos c]; exact h2⟩
    simp only [leapfrogref03x_one.v, leapfrogref03x_one.t, leapfrogref03x_one.t.p1, Fd.v, Fd.cs, sy, reduceIte, Nat.reduceAdd, Nat.reduceLeDiff, Nat.reduceLT, Nat.reduceEqDiff, Int.reduceEq, Int.reduceLT, Int.reduceLE, Int.reduceNe, ly, c, h1]
  · have hh : ∀ y : Int, More s (s.new (.row 1 [[.int .u8 y]] false)) ∧ Ful s.n (s.new (.row 1 [[.int .u8 y]] false)) 1 (.slice (some ⟨s.n, 0, some 0⟩) 1 2) (br [y]) ∧ Fresh (s.new (.row 1 [[.int .u8 y]] false)) :=
      fun y => ⟨.new, .inr ⟨s.n, 2, Nat.le_refl _, rfl, get_new_same, .inr rfl⟩, hf.new⟩
    refine ⟨_, _, ?_, by unfold wB; rw [if_neg (by omega), if_neg (by omega), if_pos c]; exact hh _⟩
    cases ht : f.t
    · simp only [leapfrogref03x_one.v, leapfrogref03x_one.t, leapfrogref03x_one.t.p1, Fd.v, Fd.cs, sy, reduceIte, Nat.reduceAdd, Nat.reduceLeDiff, Nat.reduceLT, Nat.reduceEqDiff, Int.reduceEq, Int.reduceLT, Int.reduceLE, Int.reduceNe, ly, c, ht, als_eq]
    · simp only [leapfrogref03x_one.v, leapfrogref03x_one.t, leapfrogref03x_one.t.p1, Fd.v, Fd.cs, sy, reduceIte, Nat.reduceAdd, Nat.reduceLeDiff, Nat.reduceLT, Nat.reduceEqDiff, Int.reduceEq, Int.reduceLT, Int.reduceLE, Int.reduceNe, ly, c, ht, als_eq]
  · have hln := ok.2.2.1 c
    obtain ⟨v, s1, h1, h2, h3, h4⟩ := rnumber_v (s := s) l.length (by omega) hf
    have hb1 := (hb.to fun x hx => h2.old x (by omega)).here
    have hlen := hb.here.lenL
    have hrow := hb1.rows
    have hlv := hb1.len
    have hnl := numB_le (x := l.length) (by omega)
    obtain ⟨v', s', p1, p2, p3, p4⟩ := app_ful h4 h3 h2 hlv hrow (by simp only [br_length]; omega)
    rw [br_length] at hlen
    refine ⟨v', s', ?_, p2, by unfold wB; rw [if_neg (by omega), if_neg (by omega), if_neg (by omega), if_pos c, br_append]; exact p3, p4⟩
    have hw : IntKind.u64.wrap ((l.length : Nat) : Int) = (l.length : Int) := wrapu64 (by omega) (by omega)
    have sm : sameV (.int .i64 ((l.length : Nat) : Int)) (.int .i64 ((l.length : Nat) : Int)) = true := sameII
    simp only [leapfrogref03x_one.v, leapfrogref03x_one.t, leapfrogref03x_one.t.p1, Fd.v, Fd.cs, sy, reduceIte, Nat.reduceAdd, Nat.reduceLeDiff, Nat.reduceLT, Nat.reduceEqDiff, Int.reduceEq, Int.reduceLT, Int.reduceLE, Int.reduceNe, ly, c, hlen, hw, h1, sm, p1]
  · obtain ⟨L, B, hL, hB, g1, g2⟩ := ok.2.2.2.1 c
    obtain ⟨v, s', h1, h2⟩ := rvector_v (s := s) g1 g2 hf
    refine ⟨v, s', ?_, by unfold wB; rw [if_neg (by omega), if_neg (by omega), if_neg (by omega), if_neg (by omega), if_pos c, hL, hB]; exact h2⟩
    simp only [leapfrogref03x_one.v, leapfrogref03x_one.t, leapfrogref03x_one.t.p1, Fd.v, Fd.cs, sy, reduceIte, Nat.reduceAdd, Nat.reduceLeDiff, Nat.reduceLT, Nat.reduceEqDiff, Int.reduceEq, Int.reduceLT, Int.reduceLE, Int.reduceNe, ly, c, hL, hB, h1]
  · obtain ⟨n, hn⟩ : ∃ n : Nat, f.kn = n := ⟨f.kn.toNat, by omega⟩
    obtain ⟨v, s', h1, h2⟩ := rkey_v (s := s) f.kr n (by omega) hf
    refine ⟨v, s', ?_, by unfold wB; rw [if_neg (by omega), if_neg (by omega), if_neg (by omega), if_neg (by omega), if_neg (by omega), if_pos c, hn]; exact h2⟩
    simp only [leapfrogref03x_one.v, leapfrogref03x_one.t, leapfrogref03x_one.t.p1, Fd.v, Fd.cs, sy, reduceIte, Nat.reduceAdd, Nat.reduceLeDiff, Nat.reduceLT, Nat.reduceEqDiff, Int.reduceEq, Int.reduceLT, Int.reduceLE, Int.reduceNe, ly, c, hn, h1]
  · obtain ⟨L, B, hL, hB, g1, g2⟩ := (ok.2.2.2.2.2 c).2
    obtain ⟨n, hn⟩ : ∃ n : Nat, f.rn = n := ⟨f.rn.toNat, by omega⟩
    have y1 := numB_le (zz_lt f8 f9)
    have y2 := keyB_len f.rr n
    have y3 := vecB_len L B
    obtain ⟨v1, s1, h1, h2, h3, h4⟩ := rwhole_v (s := s) f8 f9 hf
    obtain ⟨v2, s2, i1, i2, i3, i4⟩ := rkey_v (s := s1) f.rr n (by omega) h4
    obtain ⟨v3, s3, p1, p2, p3, p4⟩ := br_app i4 (h3.more i2 h4) i3 (h2.trans i2) (by omega)
    obtain ⟨v4, s4, j1, j2, j3, j4⟩ := rvector_v (s := s3) g1 g2 p4
    obtain ⟨v5, s5, q1, q2, q3, q4⟩ := br_app j4 (p3.more j2 p4) j3 (p2.trans j2) (by simp; omega)
    refine ⟨v5, s5, ?_, q2, by
      unfold wB
      rw [if_neg (by omega), if_neg (by omega), if_neg (by omega), if_neg (by omega), if_neg (by omega), if_neg (by omega), hn, hL, hB]
      exact q3, q4⟩
    simp only [leapfrogref03x_one.v, leapfrogref03x_one.t, leapfrogref03x_one.t.p1, Fd.v, Fd.cs, sy, reduceIte, Nat.reduceAdd, Nat.reduceLeDiff, Nat.reduceLT, Nat.reduceEqDiff, Int.reduceEq, Int.reduceLT, Int.reduceLE, Int.reduceNe, ly, c, hn, hL, hB, h1, i1, p1, j1, q1]
end Go.Proofs.Ytmbfnpadhlfepaa
