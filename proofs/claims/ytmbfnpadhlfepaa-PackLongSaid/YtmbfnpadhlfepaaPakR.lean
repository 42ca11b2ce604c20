/-
  The fields with which bytes begin, as the program reads them.
-/
import Derived.Test.YtmbfnpadhlfepaaPakQ
import Derived.KernelRfl
set_option linter.unusedSimpArgs false
set_option linter.unusedVariables false
set_option maxRecDepth 100000
set_option maxHeartbeats 4000000
namespace Go.Proofs.Ytmbfnpadhlfepaa
open Go.Sim Go.Sim.Bt
attribute [local congr] bdc cndc itec gdc gdSc gdUc

def clr (p : FB) : FB := ({ p.1 with b := nilB }, p.2)
def firstL (bs : List Int) : List Int → Nat → List FB → RdR (List FB)
  | [], p, gs => .ok gs p
  | k :: ks, p, gs => match fieldP bs k p with
    | .bad e q => .bad e q
    | .ok a q => firstL bs ks q (gs ++ [a])
open Classical in
noncomputable def firstP (bs : List Int) (ks : List Int) : List FB × Nat × Int :=
  if ∀ k ∈ ks, isKd k then (match firstL bs ks 0 [] with
    | .ok gs p => (gs, p, 0)
    | .bad e p => ([], p, e)) else ([], 0, 30)

/-! ### The numbers of a field that is read -/

theorem keyL_lt {bs : List Int} (hb : okY bs) : ∀ {d j x p a q : Nat}, j + d = 8 → x < 256 ^ j → keyL bs d x p = .ok a q → a < 2 ^ 64
  | 0, j, x, p, a, q, hj, hx, h => by
    unfold keyL at h
    cases h
    have : j = 8 := by omega
    subst this
    have e : 256 ^ 8 = 2 ^ 64 := by decide
    omega
  | d + 1, j, x, p, a, q, hj, hx, h => by
    unfold keyL at h
    split at h
    · cases h
    · rename_i y q' hy
      obtain ⟨_, _, z, hz, rfl⟩ := byteP_ok hy
      obtain ⟨w, rfl, hw⟩ := hb.at hz
      exact keyL_lt hb (j := j + 1) (by omega) (by rw [Nat.pow_succ, Int.toNat_natCast]; omega) h
theorem keyP_lt {bs : List Int} (hb : okY bs) {p q : Nat} {a : Nat × Nat} (h : keyP bs p = .ok a q) : a.2 < 2 ^ 64 := by
  unfold keyP at h
  split at h
  · cases h
  · split at h
    · split at h
      · cases h
      · rename_i hk
        cases h
        exact keyL_lt hb (j := 0) (by omega) (by decide) hk
    · cases h; exact Nat.two_pow_pos _
theorem intP_rng {bs : List Int} {p q : Nat} {a : Int} (h : intP bs p = .ok a q) : -9223372036854775808 ≤ a ∧ a ≤ 9223372036854775807 := by
  unfold intP at h
  split at h
  · cases h
  · rename_i x q' hx
    cases h
    have := numL_lt (by omega) (by decide) hx
    unfold unzz
    split <;> omega
theorem fd0_a (k : Int) : FdA (fd0 k) := ⟨by simp [fd0], by simp [fd0], by simp [fd0], by simp [fd0], by simp [fd0], by simp [fd0], by simp [fd0], by simp [fd0], by simp [fd0], by simp [fd0], by simp [fd0], by simp [fd0]⟩
theorem fieldP_a {bs : List Int} (hb : okY bs) {k : Int} {p q : Nat} {a : FB} (h : fieldP bs k p = .ok a q) : FdA a.1 := by
  obtain ⟨z1, z2, z3, z4, z5, z6, z7, z8, z9, z10, z11, z12⟩ := fd0_a k
  unfold fieldP at h
  split at h
  · split at h
    · cases h
    · rename_i x q' hx
      cases h
      have := numL_lt (by omega) (by decide) hx
      exact ⟨by simp only; omega, by simp only; omega, z3, z4, z5, z6, z7, z8, z9, z10, z11, z12⟩
  · split at h
    · split at h
      · cases h
      · rename_i x q' hx
        cases h
        obtain ⟨r1, r2⟩ := intP_rng hx
        exact ⟨z1, z2, r1, r2, z5, z6, z7, z8, z9, z10, z11, z12⟩
    · split at h
      · split at h
        · cases h
        · cases h; exact ⟨z1, z2, z3, z4, z5, z6, z7, z8, z9, z10, z11, z12⟩
      · split at h
        · split at h
          · cases h
          · split at h
            · cases h
            · cases h; exact ⟨z1, z2, z3, z4, z5, z6, z7, z8, z9, z10, z11, z12⟩
        · split at h
          · split at h
            · cases h
            · cases h; exact ⟨z1, z2, z3, z4, by simp only; omega, z6, z7, z8, z9, z10, z11, z12⟩
          · split at h
            · split at h
              · cases h
              · rename_i x q' hx
                cases h
                have := keyP_lt hb hx
                exact ⟨z1, z2, z3, z4, z5, by simp only; omega, by simp only; omega, z8, z9, z10, z11, z12⟩
            · split at h
              · split at h
                · cases h
                · rename_i x q' hx
                  split at h
                  · cases h
                  · rename_i u q'' hu
                    split at h
                    · cases h
                    · cases h
                      obtain ⟨r1, r2⟩ := intP_rng hx
                      have := keyP_lt hb hu
                      exact ⟨z1, z2, z3, z4, z5, z6, z7, r1, r2, by simp only; omega, by simp only; omega, by simp only; omega⟩
              · cases h; exact ⟨z1, z2, z3, z4, z5, z6, z7, z8, z9, z10, z11, z12⟩

/-! ### The whole function, joined -/

theorem first_no {a0 a1 l n c : Value} {s s1 : St} (h : pack_First.h std a0 a1 s = some (false, [l, n, c], s1)) : pack_First.v a0 a1 s = some (.tuple ⟨[l, n, c]⟩, s1) := by
  show ((pack_First.h std a0 a1 s).bind fun r => match r with
    | (false, l, s1) => some (oneV l, s1)
    | (true, ys, s1) => _) = _
  rw [h]
  rfl
theorem first_end (p1 p2 p3 : Value) (s : St) : dfEnd Try.prog Try.f21.results.toList [4, 5, 6] [p1, p2, p3] s = std.bd (ldc s p1) fun x => std.bd (ldc s p2) fun y => std.bd (ldc s p3) fun z => some (.tuple ⟨[x, y, z]⟩, s) := by kernel_rfl
theorem first_yes {a0 a1 y0 y1 y2 y3 y4 p1 p2 p3 pw l n c : Value} {ok : Bool} {s s1 s2 s3 : St} (h : pack_First.h std a0 a1 s = some (true, [y0, y1, y2, y3, y4], s1))
    (hb : ∀ f, pack_First.b std f y0 y1 y2 y3 y4 s1 = some (ok, pw, [p1, p2, p3], s2)) (hc : pack_FirstC.c std y4 y1 y2 y3 (if ok = true then .nilIface else pw) s2 = some s3) (h1 : ldc s3 p1 = some l) (h2 : ldc s3 p2 = some n) (h3 : ldc s3 p3 = some c) :
    pack_First.v a0 a1 s = some (.tuple ⟨[l, n, c]⟩, s3) := by
  have e1 : pack_First.v a0 a1 s = (pack_First.h std a0 a1 s).bind fun r => match r with
    | (false, l, s1) => some (oneV l, s1)
    | (true, ys, s1) => (evVs ⟨frV [1, 4, 5, 6, 9] ys, [], []⟩ [Operand.tmp 9, Operand.tmp 4, Operand.tmp 5, Operand.tmp 6]).bind fun cs => (pack_First.bw (.func (.func 36) ⟨[]⟩ ⟨cs⟩) ys s1).bind fun q => (pack_FirstC.cw cs (if q.1 then .nilIface else q.2.1) q.2.2.2).bind fun s3 => dfEnd Try.prog Try.f21.results.toList [4, 5, 6] q.2.2.1 s3 := rfl
  have e2 : evVs ⟨frV [1, 4, 5, 6, 9] [y0, y1, y2, y3, y4], [], []⟩ [Operand.tmp 9, Operand.tmp 4, Operand.tmp 5, Operand.tmp 6] = some [y4, y1, y2, y3] := rfl
  have e3 : ∀ f, pack_First.bw f [y0, y1, y2, y3, y4] s1 = pack_First.b std f y0 y1 y2 y3 y4 s1 := fun _ => rfl
  have e4 : ∀ x s, pack_FirstC.cw [y4, y1, y2, y3] x s = pack_FirstC.c std y4 y1 y2 y3 x s := fun _ _ => rfl
  rw [e1, h, bds]
  dsimp only
  rw [e2, bds, e3, hb, bds, e4]
  dsimp only
  rw [hc, bds, first_end]
  simp only [std_bd, h1, h2, h3, bds]
end Go.Proofs.Ytmbfnpadhlfepaa
