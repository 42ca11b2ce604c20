/-
  Reckoning with unknown numbers: what each primitive of the evaluator answers.
-/
import Derived.Test.YteiagjbjokldgaaSimZ
set_option linter.unusedSimpArgs false
set_option linter.unusedVariables false
namespace Go.Sim

/-! ### Joining -/

theorem bdc {α β : Type} {x y : Option α} {f : α → Option β} (h : x = y) : x.bind f = y.bind f := by rw [h]
theorem std_gd (v : Value) (w : Bool) (m : Option Value) : std.gd v w m = gd v w m := id rfl
theorem std_gdS (v : Value) (w : Bool) (m : Option (Value × St)) (s : St) : std.gdS v w m s = gdS v w m s := id rfl
theorem std_gdU (v : Value) (w : Bool) (m : Option St) (s : St) : std.gdU v w m s = gdU v w m s := id rfl
theorem gdc {v v' : Value} {w : Bool} {m : Option Value} (h : v = v') : gd v w m = gd v' w m := by rw [h]
theorem gdSc {v v' : Value} {w : Bool} {m : Option (Value × St)} {s : St} (h : v = v') : gdS v w m s = gdS v' w m s := by rw [h]
theorem gdUc {v v' : Value} {w : Bool} {m : Option St} {s : St} (h : v = v') : gdU v w m s = gdU v' w m s := by rw [h]
theorem gdUt {m : Option St} {s : St} : gdU (.bool true) true m s = m := id rfl
theorem gdUf {m : Option St} {s : St} : gdU (.bool false) false m s = m := id rfl
theorem gdUtf {m : Option St} {s : St} : gdU (.bool true) false m s = some s := id rfl
theorem gdUft {m : Option St} {s : St} : gdU (.bool false) true m s = some s := id rfl
theorem bds {α β : Type} {a : α} {f : α → Option β} : (some a).bind f = f a := id rfl
theorem bdn {α β : Type} {f : α → Option β} : (none : Option α).bind f = none := id rfl
theorem cndc {R : Type} {v w : Value} {x y : Option R} (h : v = w) : cnd v x y = cnd w x y := by rw [h]
theorem itec {R : Type} {p q : Prop} [Decidable p] [Decidable q] {x y : R} (h : p = q) : (if p then x else y) = (if q then x else y) := by subst h; congr
theorem cndt {R : Type} {x y : Option R} : cnd (.bool true) x y = x := id rfl
theorem cndf {R : Type} {x y : Option R} : cnd (.bool false) x y = y := id rfl
theorem cndd {R : Type} {p : Prop} [Decidable p] {x y : Option R} : cnd (.bool (decide p)) x y = if p then x else y := by
  by_cases h : p <;> simp [h, cnd]
theorem cndb {R : Type} {b : Bool} {x y : Option R} : cnd (.bool b) x y = if b = true then x else y := by cases b <;> rfl
theorem bd_ite {α β : Type} {p : Prop} [Decidable p] {x y : Option α} {f : α → Option β} : (if p then x else y).bind f = if p then x.bind f else y.bind f := by
  by_cases h : p <;> simp [h]
theorem gdtt {m : Option Value} : gd (.bool true) true m = m := id rfl
theorem gdff {m : Option Value} : gd (.bool false) false m = m := id rfl
theorem gdtf {m : Option Value} : gd (.bool true) false m = some undef := id rfl
theorem gdft {m : Option Value} : gd (.bool false) true m = some undef := id rfl
theorem gdun {w : Bool} {m : Option Value} : gd undef w m = some undef := id rfl
theorem gdSun {w : Bool} {m : Option (Value × St)} {s : St} : gdS undef w m s = some (undef, s) := id rfl
theorem gdSt {m : Option (Value × St)} {s : St} : gdS (.bool true) true m s = m := id rfl
theorem gdSf {m : Option (Value × St)} {s : St} : gdS (.bool false) false m s = m := id rfl
theorem gdStf {m : Option (Value × St)} {s : St} : gdS (.bool true) false m s = some (undef, s) := id rfl
theorem gdSft {m : Option (Value × St)} {s : St} : gdS (.bool false) true m s = some (undef, s) := id rfl
theorem pikt {a b : Value} : pik (.bool true) a b = some a := id rfl
theorem pikf {a b : Value} : pik (.bool false) a b = some b := id rfl

/-! ### Whole numbers -/

theorem eqb1 {k : IntKind} {a b : Int} : eqb [1] false false (.int k a) (.int k b) = some (.bool (decide (a = b))) := by
  simp only [eqb, eqT, eqk, if_true, Option.map_some, Option.some.injEq, Value.bool.injEq]
  by_cases h : a = b <;> simp [h]
theorem neb1 {k : IntKind} {a b : Int} : eqb [1] false true (.int k a) (.int k b) = some (.bool (decide (a ≠ b))) := by
  simp only [eqb, eqT, eqk, if_true, Option.map_some, Option.some.injEq, Value.bool.injEq]
  by_cases h : a = b <;> simp [h]
theorem eqb0 {a b : Bool} : eqb [0] false false (.bool a) (.bool b) = some (.bool (decide (a = b))) := by
  cases a <;> cases b <;> rfl
theorem neb0 {a b : Bool} : eqb [0] false true (.bool a) (.bool b) = some (.bool (decide (a ≠ b))) := by
  cases a <;> cases b <;> rfl
theorem eqb2 {a b : ByteArray} : eqb [2] false false (.string a) (.string b) = some (.bool (decide (a = b))) := id rfl
theorem neb2 {a b : ByteArray} : eqb [2] false true (.string a) (.string b) = some (.bool (decide (a ≠ b))) := by
  simp only [eqb, eqT, eqk, Option.map_some, Option.some.injEq, Value.bool.injEq]
  by_cases h : a = b <;> simp [h]
theorem eqb3n {a : Addr} : eqb [3] false false (.pointer (some a)) (.pointer none) = some (.bool false) := id rfl
theorem neb3n {a : Addr} : eqb [3] false true (.pointer (some a)) (.pointer none) = some (.bool true) := id rfl
theorem eqb3nn : eqb [3] false false (.pointer none) (.pointer none) = some (.bool true) := id rfl
theorem neb3nn : eqb [3] false true (.pointer none) (.pointer none) = some (.bool false) := id rfl
theorem eqk1 {k : IntKind} {a b : Int} : eqk 1 (.int k a) (.int k b) = some (decide (a = b)) := by
  simp only [eqk, if_true, Option.some.injEq]; by_cases h : a = b <;> simp [h]
theorem eqb_agg {ks : List Nat} {x y : List Value} : eqb ks true false (.agg ⟨x⟩) (.agg ⟨y⟩) = (eqks ks x y).map .bool := by
  simp only [eqb, eqT]
theorem neb_agg {ks : List Nat} {x y : List Value} : eqb ks true true (.agg ⟨x⟩) (.agg ⟨y⟩) = (eqks ks x y).map fun b => .bool (!b) := by
  simp only [eqb, eqT]
theorem eqks_nil : eqks [] [] [] = some true := id rfl
theorem eqks_cons {k : Nat} {ks : List Nat} {x y : Value} {xs ys : List Value} : eqks (k :: ks) (x :: xs) (y :: ys) = (eqk k x y).bind fun a => (eqks ks xs ys).bind fun b => some (a && b) := id rfl

theorem wrapu64_eq' (n : Int) : IntKind.u64.wrap n = n % 18446744073709551616 := by
  simp [IntKind.wrap, IntKind.signed, IntKind.bits]
theorem bin_add {k : IntKind} {a b : Int} : bin .add (.int k a) (.int k b) = some (.int k (k.wrap (a + b))) := by
  simp [bin, binOp, run0, Op.intArith]; rfl
theorem bin_sub {k : IntKind} {a b : Int} : bin .sub (.int k a) (.int k b) = some (.int k (k.wrap (a - b))) := by
  simp [bin, binOp, run0, Op.intArith]; rfl
theorem bin_mul {k : IntKind} {a b : Int} : bin .mul (.int k a) (.int k b) = some (.int k (k.wrap (a * b))) := by
  simp [bin, binOp, run0, Op.intArith]; rfl
theorem bin_quo {k : IntKind} {a b : Int} (h : b ≠ 0) : bin .quo (.int k a) (.int k b) = some (.int k (k.wrap (a.tdiv b))) := by
  simp [bin, binOp, run0, Op.intDiv, h]; rfl
theorem bin_rem {k : IntKind} {a b : Int} (h : b ≠ 0) : bin .rem (.int k a) (.int k b) = some (.int k (a.tmod b)) := by
  simp [bin, binOp, run0, Op.intDiv, h]; rfl
theorem bin_and {k : IntKind} {a b : Int} : bin .and (.int k a) (.int k b) = some (.int k (k.wrap (BitVec.ofInt k.bits a &&& BitVec.ofInt k.bits b).toNat)) := by
  simp [bin, binOp, run0, Op.intBits]; rfl
theorem bin_or {k : IntKind} {a b : Int} : bin .or (.int k a) (.int k b) = some (.int k (k.wrap (BitVec.ofInt k.bits a ||| BitVec.ofInt k.bits b).toNat)) := by
  simp [bin, binOp, run0, Op.intBits]; rfl
theorem bin_xor {k : IntKind} {a b : Int} : bin .xor (.int k a) (.int k b) = some (.int k (k.wrap (BitVec.ofInt k.bits a ^^^ BitVec.ofInt k.bits b).toNat)) := by
  simp [bin, binOp, run0, Op.intBits]; rfl
theorem bin_shl {k k' : IntKind} {a b : Int} (h : 0 ≤ b) : bin .shl (.int k a) (.int k' b) = some (.int k (k.wrap (a * 2 ^ (min b.toNat k.bits)))) := by
  simp only [bin, binOp, Op.shift, if_neg (Int.not_lt.mpr h)]; rfl
theorem bin_shr {k k' : IntKind} {a b : Int} (h : 0 ≤ b) : bin .shr (.int k a) (.int k' b) = some (.int k (a.fdiv (2 ^ (min b.toNat k.bits)))) := by
  simp only [bin, binOp, Op.shift, if_neg (Int.not_lt.mpr h)]; rfl
theorem add_u64 {a b : Nat} : bin .add (.int .u64 (a : Int)) (.int .u64 (b : Int)) = some (.int .u64 (((a + b) % 2 ^ 64 : Nat) : Int)) := by
  rw [bin_add, wrapu64_eq']
  have : ((a : Int) + b) % 18446744073709551616 = (((a + b) % 2 ^ 64 : Nat) : Int) := by omega
  rw [this]
theorem mul_u64 {a b : Nat} : bin .mul (.int .u64 (a : Int)) (.int .u64 (b : Int)) = some (.int .u64 (((a * b) % 2 ^ 64 : Nat) : Int)) := by
  rw [bin_mul, wrapu64_eq', ← Int.natCast_mul]
  generalize a * b = q
  have : (q : Int) % 18446744073709551616 = ((q % 2 ^ 64 : Nat) : Int) := by omega
  rw [this]
theorem quo_u64 {a b : Nat} (ha : a < 2 ^ 64) (hb : 0 < b) : bin .quo (.int .u64 (a : Int)) (.int .u64 (b : Int)) = some (.int .u64 ((a / b : Nat) : Int)) := by
  rw [bin_quo (by omega), show ((a : Int)).tdiv b = ((a / b : Nat) : Int) by rfl, wrapu64_eq']
  have h := Nat.div_le_self a b
  generalize a / b = q at *
  have : (q : Int) % 18446744073709551616 = (q : Int) := by omega
  rw [this]
theorem and_u64 {a b : Nat} (ha : a < 2 ^ 64) (hb : b < 2 ^ 64) : bin .and (.int .u64 (a : Int)) (.int .u64 (b : Int)) = some (.int .u64 ((a &&& b : Nat) : Int)) := by
  rw [bin_and]
  change some (Value.int .u64 (IntKind.u64.wrap ((BitVec.ofInt 64 (a : Int) &&& BitVec.ofInt 64 (b : Int) : BitVec 64).toNat : Int))) = _
  rw [BitVec.ofInt_natCast, BitVec.ofInt_natCast, BitVec.toNat_and, BitVec.toNat_ofNat, BitVec.toNat_ofNat, Nat.mod_eq_of_lt ha, Nat.mod_eq_of_lt hb]
  have : a &&& b < 2 ^ 64 := Nat.and_lt_two_pow _ hb
  simp [IntKind.wrap, IntKind.signed, IntKind.bits]; omega
theorem or_u64 {a b : Nat} (ha : a < 2 ^ 64) (hb : b < 2 ^ 64) : bin .or (.int .u64 (a : Int)) (.int .u64 (b : Int)) = some (.int .u64 ((a ||| b : Nat) : Int)) := by
  rw [bin_or]
  change some (Value.int .u64 (IntKind.u64.wrap ((BitVec.ofInt 64 (a : Int) ||| BitVec.ofInt 64 (b : Int) : BitVec 64).toNat : Int))) = _
  rw [BitVec.ofInt_natCast, BitVec.ofInt_natCast, BitVec.toNat_or, BitVec.toNat_ofNat, BitVec.toNat_ofNat, Nat.mod_eq_of_lt ha, Nat.mod_eq_of_lt hb]
  have : a ||| b < 2 ^ 64 := Nat.or_lt_two_pow ha hb
  simp [IntKind.wrap, IntKind.signed, IntKind.bits]; omega
theorem xor_u64 {a b : Nat} (ha : a < 2 ^ 64) (hb : b < 2 ^ 64) : bin .xor (.int .u64 (a : Int)) (.int .u64 (b : Int)) = some (.int .u64 ((a ^^^ b : Nat) : Int)) := by
  rw [bin_xor]
  change some (Value.int .u64 (IntKind.u64.wrap ((BitVec.ofInt 64 (a : Int) ^^^ BitVec.ofInt 64 (b : Int) : BitVec 64).toNat : Int))) = _
  rw [BitVec.ofInt_natCast, BitVec.ofInt_natCast, BitVec.toNat_xor, BitVec.toNat_ofNat, BitVec.toNat_ofNat, Nat.mod_eq_of_lt ha, Nat.mod_eq_of_lt hb]
  have : a ^^^ b < 2 ^ 64 := Nat.xor_lt_two_pow ha hb
  simp [IntKind.wrap, IntKind.signed, IntKind.bits]; omega
theorem shr_u64 {a k : Nat} {k' : IntKind} (h : k ≤ 64) : bin .shr (.int .u64 (a : Int)) (.int k' (k : Int)) = some (.int .u64 ((a / 2 ^ k : Nat) : Int)) := by
  rw [bin_shr (Int.natCast_nonneg k), show min (k : Int).toNat IntKind.u64.bits = k by simp [IntKind.bits]; omega, show (2 : Int) ^ k = ((2 ^ k : Nat) : Int) by simp, Int.fdiv_eq_ediv_of_nonneg _ (Int.natCast_nonneg _)]
  rfl
theorem shl_u64 {a k : Nat} {k' : IntKind} (h : k ≤ 64) (hl : a * 2 ^ k < 2 ^ 64) : bin .shl (.int .u64 (a : Int)) (.int k' (k : Int)) = some (.int .u64 ((a * 2 ^ k : Nat) : Int)) := by
  rw [bin_shl (Int.natCast_nonneg k), show min (k : Int).toNat IntKind.u64.bits = k by simp [IntKind.bits]; omega, show (a : Int) * 2 ^ k = ((a * 2 ^ k : Nat) : Int) by simp]
  generalize a * 2 ^ k = q at *
  simp [IntKind.wrap, IntKind.signed, IntKind.bits]; omega
theorem bin_lss {k : IntKind} {a b : Int} : bin .lss (.int k a) (.int k b) = some (.bool (decide (a < b))) := by
  simp [bin, binOp, run0, Op.intCmp]; rfl
theorem bin_leq {k : IntKind} {a b : Int} : bin .leq (.int k a) (.int k b) = some (.bool (decide (a ≤ b))) := by
  simp [bin, binOp, run0, Op.intCmp]; rfl
theorem bin_gtr {k : IntKind} {a b : Int} : bin .gtr (.int k a) (.int k b) = some (.bool (decide (b < a))) := by
  simp [bin, binOp, run0, Op.intCmp]; rfl
theorem bin_geq {k : IntKind} {a b : Int} : bin .geq (.int k a) (.int k b) = some (.bool (decide (b ≤ a))) := by
  simp [bin, binOp, run0, Op.intCmp]; rfl
theorem un_not {b : Bool} : un .not (.bool b) = some (.bool (!b)) := id rfl
theorem un_notd {p : Prop} [Decidable p] : un .not (.bool (decide p)) = some (.bool (decide (¬ p))) := by
  simp only [un_not, decide_not]
theorem cvi_int {k k' : IntKind} {n : Int} : cvi k (.int k' n) = some (.int k (k.wrap n)) := id rfl
theorem cvs_str {s : ByteArray} : cvs (.string s) = some (.string s) := id rfl
theorem mn2_int {k k' : IntKind} {a b : Int} : mn2 (.int k a) (.int k' b) = some (.int k (if b < a then b else a)) := id rfl
theorem mx2_int {k k' : IntKind} {a b : Int} : mx2 (.int k a) (.int k' b) = some (.int k (if b > a then b else a)) := id rfl
theorem lenS_str {t : ByteArray} : lenS (.string t) = some (.int .i64 t.size) := id rfl
theorem lenL_slc {a : Option Addr} {n c : Nat} : lenL (.slice a n c) = some (.int .i64 n) := id rfl

theorem wrap64 {n : Int} (h1 : -9223372036854775808 ≤ n) (h2 : n ≤ 9223372036854775807) : IntKind.i64.wrap n = n := wrap_i64 h1 (by omega)
theorem wrapu64 {n : Int} (h1 : 0 ≤ n) (h2 : n ≤ 18446744073709551615) : IntKind.u64.wrap n = n := by
  simp [IntKind.wrap, IntKind.signed, IntKind.bits]; omega
theorem wrapu8 {n : Int} (h1 : 0 ≤ n) (h2 : n ≤ 255) : IntKind.u8.wrap n = n := by
  simp [IntKind.wrap, IntKind.signed, IntKind.bits]; omega
theorem wrapu64_eq (n : Int) : IntKind.u64.wrap n = n % 18446744073709551616 := by
  simp [IntKind.wrap, IntKind.signed, IntKind.bits]
theorem wrapu8_eq (n : Int) : IntKind.u8.wrap n = n % 256 := by
  simp [IntKind.wrap, IntKind.signed, IntKind.bits]

theorem wf_i64 {n : Int} (h : (Lit.int .i64 n).wf = true) : -9223372036854775808 ≤ n ∧ n ≤ 9223372036854775807 := by
  simp [Lit.wf, IntKind.min, IntKind.max, IntKind.signed, IntKind.bits] at h
  omega
theorem wf_u64 {n : Int} (h : (Lit.int .u64 n).wf = true) : 0 ≤ n ∧ n ≤ 18446744073709551615 := by
  simp [Lit.wf, IntKind.min, IntKind.max, IntKind.signed, IntKind.bits] at h
  omega
theorem wf_u8 {n : Int} (h : (Lit.int .u8 n).wf = true) : 0 ≤ n ∧ n ≤ 255 := by
  simp [Lit.wf, IntKind.min, IntKind.max, IntKind.signed, IntKind.bits] at h
  omega

/-! ### Values -/

theorem bx_int {k : IntKind} {n : Int} : bx (.int k n) = some [.int k n] := id rfl
theorem bx_bool {b : Bool} : bx (.bool b) = some [.bool b] := id rfl
theorem bx_str {b : ByteArray} : bx (.string b) = some [.string b] := id rfl
theorem bx_ptr {b : Option Addr} : bx (.pointer b) = some [.pointer b] := id rfl
theorem bx_slc {b : Option Addr} {n c : Nat} : bx (.slice b n c) = some [.slice b n c] := id rfl
theorem bx_agg {l : List Value} : bx (.agg ⟨l⟩) = some l := id rfl
theorem lcl_eq {cs : List Value} {j : Nat} : lcl cs j = cs[j]? := id rfl
theorem xtr_eq {l : List Value} {j : Nat} : xtr j (.tuple ⟨l⟩) = l[j]? := id rfl
theorem cellsA_agg {l : List Value} : cellsA (.agg ⟨l⟩) = l := id rfl
theorem spl_z {l : List Value} : spl l 0 [] = l := by cases l <;> rfl
theorem spl_c {x v : Value} {l vs : List Value} : spl (x :: l) 0 (v :: vs) = v :: spl l 0 vs := id rfl
theorem spl_s {x : Value} {l vs : List Value} {j : Nat} : spl (x :: l) (j + 1) vs = x :: spl l j vs := id rfl
theorem bld_nil {acc : List Value} : bld acc [] = some (.agg ⟨acc⟩) := id rfl
theorem bld_cons {acc : List Value} {off n : Nat} {v : Value} {r : List (Nat × Nat × Value)} : bld acc ((off, n, v) :: r) = (bx v).bind fun cs => if cs.length = n ∧ off + n ≤ acc.length then bld (spl acc off cs) r else none := id rfl
theorem bls_nil {n : Nat} {acc : List (List Value)} : bls n acc [] = some acc := id rfl
theorem bls_cons {n i : Nat} {acc : List (List Value)} {v : Value} {r : List (Nat × Value)} : bls n acc ((i, v) :: r) = (bx v).bind fun cs => if cs.length = n ∧ i < acc.length then bls n (acc.set i cs) r else none := id rfl
theorem prt_t {off n : Nat} {l : List Value} : prt off n true (.agg ⟨l⟩) = if off + n ≤ l.length then some (.agg ⟨(l.drop off).take n⟩) else none := id rfl
theorem prt_f {off n : Nat} {l : List Value} : prt off n false (.agg ⟨l⟩) = l[off]? := id rfl
theorem nck_ptr {a : Addr} : nck (.pointer (some a)) = some (.pointer (some a)) := id rfl
theorem fld_ptr {b i j o : Nat} : fld o (.pointer (some ⟨b, i, some j⟩)) = some (.pointer (some ⟨b, i, some (j + o)⟩)) := id rfl
theorem idxS_str {s : ByteArray} {k : IntKind} {n : Int} (h : 0 ≤ n) : idxS (.string s) (.int k n) = (s.data.toList[n.toNat]?).map fun b => .int .u8 b.toNat := by
  simp only [idxS, if_pos h]

theorem rep1 {α : Type} {x : α} : List.replicate 1 x = [x] := id rfl
theorem rep2 {α : Type} {x : α} : List.replicate 2 x = [x, x] := id rfl
theorem rep3 {α : Type} {x : α} : List.replicate 3 x = [x, x, x] := id rfl
theorem rep4 {α : Type} {x : α} : List.replicate 4 x = [x, x, x, x] := id rfl

/-! ### Memory -/

/-- What is asked of a heap: no row beyond its numbers. -/
def Fresh (s : St) : Prop := ∀ b, s.n ≤ b → s.get b = none

theorem Fresh.lt {s : St} (h : Fresh s) {b : Nat} {k : Blk} (hb : s.get b = some k) : b < s.n := by
  rcases Nat.lt_or_ge b s.n with h1 | h1
  · exact h1
  · rw [h b h1] at hb; cases hb

theorem put_n {s : St} {b : Nat} {x : Blk} : (s.put b x).n = s.n := id rfl
theorem new_n {s : St} {x : Blk} : (s.new x).n = s.n + 1 := id rfl
theorem del_n {s : St} {b : Nat} : (s.del b).n = s.n := id rfl
theorem frz_n {s : St} : s.frz.n = s.n := id rfl
theorem get_put_same {s : St} {b : Nat} {k x : Blk} (h : s.get b = some k) : (s.put b x).get b = some x := by
  rw [St.get_put]; simp [h]
theorem get_put_ne {s : St} {b c : Nat} {x : Blk} (h : c ≠ b) : (s.put b x).get c = s.get c := by
  rw [St.get_put]; simp [h]
theorem get_new_same {s : St} {x : Blk} : (s.new x).get s.n = some x := by
  rw [St.get_new]; simp
theorem get_new_ne {s : St} {c : Nat} {x : Blk} (h : c ≠ s.n) : (s.new x).get c = s.get c := by
  rw [St.get_new]; simp [h]
theorem get_del_ne {s : St} {b c : Nat} (h : c ≠ b) : (s.del b).get c = s.get c := by
  rw [St.get_del]; simp [h]

theorem Fresh.put {s : St} (h : Fresh s) {b : Nat} {x : Blk} : Fresh (s.put b x) := fun c hc => by
  rw [St.get_put]; split
  · rename_i e; subst e; rw [h _ hc]; rfl
  · exact h c hc
theorem Fresh.new {s : St} (h : Fresh s) {x : Blk} : Fresh (s.new x) := fun c hc => by
  rw [new_n] at hc
  rw [get_new_ne (by omega)]
  exact h c (by omega)
theorem Fresh.del {s : St} (h : Fresh s) {b : Nat} : Fresh (s.del b) := fun c hc => by
  rw [St.get_del]; split
  · rfl
  · exact h c hc
theorem Fresh.frz {s : St} (h : Fresh s) : Fresh s.frz := fun c hc => by rw [St.get_frz, h c hc]; rfl
theorem fresh_nil {n : Nat} : Fresh ⟨[], n⟩ := fun _ _ => rfl

/-- `s'` is `s` and something more. -/
structure More (s s' : St) : Prop where
  n : s.n ≤ s'.n
  old : ∀ b, b < s.n → s'.get b = s.get b
  fresh : Fresh s → Fresh s'

theorem More.refl (s : St) : More s s := ⟨Nat.le_refl _, fun _ _ => rfl, id⟩
theorem More.trans {a b c : St} (h : More a b) (k : More b c) : More a c :=
  ⟨Nat.le_trans h.n k.n, fun i hi => (k.old i (Nat.lt_of_lt_of_le hi h.n)).trans (h.old i hi), fun f => k.fresh (h.fresh f)⟩
theorem More.new {s : St} {x : Blk} : More s (s.new x) := ⟨by rw [new_n]; omega, fun b hb => get_new_ne (by omega), fun f => f.new⟩
theorem More.put {a s : St} (h : More a s) {b : Nat} {x : Blk} (hb : a.n ≤ b) : More a (s.put b x) :=
  ⟨h.n, fun i hi => by rw [get_put_ne (by omega), h.old i hi], fun f => (h.fresh f).put⟩
theorem More.del {a s : St} (h : More a s) {b : Nat} (hb : a.n ≤ b) : More a (s.del b) :=
  ⟨h.n, fun i hi => by rw [get_del_ne (by omega), h.old i hi], fun f => (h.fresh f).del⟩
theorem More.get {s s' : St} (h : More s s') (f : Fresh s) {b : Nat} {k : Blk} (hb : s.get b = some k) : s'.get b = some k := by
  rw [h.old b (f.lt hb)]; exact hb

theorem ldc_row {s : St} {b i j sz : Nat} {rows : List (List Value)} {ro : Bool} (h : s.get b = some (.row sz rows ro)) :
    ldc s (.pointer (some ⟨b, i, some j⟩)) = (rows[i]?).bind fun r => r[j]? := by
  simp only [ldc, h]
theorem lda_row {s : St} {b i j n sz : Nat} {rows : List (List Value)} {ro : Bool} (h : s.get b = some (.row sz rows ro)) :
    lda s n (.pointer (some ⟨b, i, some j⟩)) = (rows[i]?).bind fun r => if j + n ≤ r.length then some (.agg ⟨(r.drop j).take n⟩) else none := by
  simp only [lda, h]
theorem stv_row {s : St} {b i j n sz : Nat} {v : Value} {rows : List (List Value)} (h : s.get b = some (.row sz rows false)) :
    stv s n (.pointer (some ⟨b, i, some j⟩)) v = (bx v).bind fun cs => if cs.length = n then (rows[i]?).bind fun r =>
      if j + cs.length ≤ r.length then some (s.put b (.row sz (rows.set i (spl r j cs)) false)) else none else none := by
  simp only [stv, sto, h]
theorem idx_row {s : St} {b i sz len e : Nat} {k : IntKind} {n : Int} {rows : List (List Value)} {ro : Bool} (h : s.get b = some (.row sz rows ro)) (h0 : 0 ≤ n) (h1 : n < len) :
    idx s sz (.slice (some ⟨b, i, some 0⟩) len e) (.int k n) = some (.pointer (some ⟨b, i + n.toNat, some 0⟩)) := by
  simp only [idx, h, if_pos (And.intro h0 h1), if_true]
theorem alv_eq {s : St} {v : Value} : alv s v = (bx v).bind fun cs => some (.pointer (some ⟨s.n, 0, some 0⟩), s.new (.row cs.length [cs] false)) := id rfl
theorem als_eq {s : St} {sz len : Nat} {rows : List (List Value)} : als s sz len rows = some (.slice (some ⟨s.n, 0, some 0⟩) len (2 * rows.length), s.new (.row sz rows false)) := id rfl

/-- append of one fresh row onto a slice of its own. -/
theorem rowsOf_row {s : St} {b i sz n len e : Nat} {rows : List (List Value)} {ro : Bool} (h : s.get b = some (.row sz rows ro)) (h1 : n ≤ len) (h2 : i + n ≤ rows.length) :
    rowsOf s sz n (.slice (some ⟨b, i, some 0⟩) len e) = some ((rows.drop i).take n) := by
  simp only [rowsOf, h]
  rw [if_pos ⟨trivial, h1, h2⟩]
theorem app_nil {s : St} {sz by_ n : Nat} {x : Value} {news : List (List Value)} (hn : lenV x = some n) (hr : rowsOf s sz n x = some news) (h0 : 0 < n) (hb : n * by_ ≤ 140737488355328) (hm : n ≤ 9223372036854775807) :
    app s sz by_ (.slice none 0 0) x = some (.slice (some ⟨s.n, 0, some 0⟩) n 1, s.new (.row sz news false)) := by
  simp only [app, hn, hr]
  rw [if_neg (by omega), if_pos ⟨hb, hm⟩]
theorem app_nil0 {s : St} {sz by_ : Nat} {x : Value} {news : List (List Value)} (hn : lenV x = some 0) (hr : rowsOf s sz 0 x = some news) :
    app s sz by_ (.slice none 0 0) x = some (.slice none 0 0, s) := by
  simp only [app, hn, hr, if_true]
/-- append to a slice that is all of its row and has no known room. -/
theorem app_own {s : St} {b sz by_ n len : Nat} {x : Value} {news rows : List (List Value)} (hn : lenV x = some n) (hr : rowsOf s sz n x = some news) (hg : s.get b = some (.row sz rows false)) (hl : len ≤ rows.length)
    (h0 : 0 < n) (hb : (len + n) * by_ ≤ 140737488355328) (hm : len + n ≤ 9223372036854775807) :
    app s sz by_ (.slice (some ⟨b, 0, some 0⟩) len 1) x = some (.slice (some ⟨s.n, 0, some 0⟩) (len + n) 1, (s.del b).new (.row sz (rows.take len ++ news) false)) := by
  simp only [app, hn, hr, hg]
  rw [if_pos ⟨trivial, by omega⟩, if_pos ⟨hb, hm⟩]
  simp only [Bool.false_eq_true, if_false, if_true]
  rw [if_neg (by omega)]
/-- append where the room is known to be used up. -/
theorem app_full {s : St} {b i sz by_ n len e : Nat} {x : Value} {news rows : List (List Value)} {ro : Bool} (hn : lenV x = some n) (hr : rowsOf s sz n x = some news) (hg : s.get b = some (.row sz rows ro)) (hl : i + len ≤ rows.length)
    (he : e ≠ 1) (hf : e / 2 < len + n) (hb : (len + n) * by_ ≤ 140737488355328) (hm : len + n ≤ 9223372036854775807) :
    app s sz by_ (.slice (some ⟨b, i, some 0⟩) len e) x = some (.slice (some ⟨s.n, 0, some 0⟩) (len + n) 1, s.new (.row sz ((rows.drop i).take len ++ news) false)) := by
  simp only [app, hn, hr, hg]
  rw [if_pos ⟨trivial, hl⟩, if_pos ⟨hb, hm⟩, if_neg he, if_neg (by omega)]

/-! ### Readings -/

theorem frzR_of {m : St → Option (Value × St)} {s s' : St} {v : Value} (h : m s.frz = some (v, s')) (ho : oldV s v = true) : frzR m s = some v := by
  simp only [frzR, h, bds, ho, if_true]

/-! ### Loops -/

/-- A loop by a relation: `I d` is kept with falling `d`, or the loop ends in `r`. -/
theorem iter_rel {R : Type} {f : (List Value → St → Option R) → List Value → St → Option R} (I : Nat → List Value → St → Prop) (Q : Option R → Prop)
    (step : ∀ d xs s rec, I d xs s → (∀ d' xs' s', d' < d → I d' xs' s' → Q (rec xs' s')) → Q (f rec xs s)) :
    ∀ (k d : Nat) (xs : List Value) (s : St), d < k → I d xs s → Q (iter f k xs s)
  | 0, d, xs, s, h, _ => by omega
  | k + 1, d, xs, s, h, hi => by
    rw [iter_succ]
    exact step d xs s _ hi fun d' xs' s' hd hi' => iter_rel I Q step k d' xs' s' (by omega) hi'

theorem drop_get {α : Type} {l : List α} {j : Nat} {x : α} (h : l[j]? = some x) : l.drop j = x :: l.drop (j + 1) := by
  obtain ⟨hj, he⟩ := List.getElem?_eq_some_iff.1 h
  rw [List.drop_eq_getElem_cons hj, he]
theorem get_some {α : Type} {l : List α} {j : Nat} (h : j < l.length) : ∃ x, l[j]? = some x := ⟨_, List.getElem?_eq_getElem h⟩

/-! ### All of them at once -/

theorem lal_eq {cs : List Value} {j n : Nat} : lal cs j n = if j + n ≤ cs.length then some (.agg ⟨(cs.drop j).take n⟩) else none := id rfl
theorem stl_eq {cs : List Value} {j n : Nat} {v : Value} : stl cs j n v = (bx v).bind fun vs => if vs.length = n ∧ j + n ≤ cs.length then some (spl cs j vs) else none := id rfl
theorem sy : (((((((type_of% @std_bd) ∧ (type_of% @std_gd)) ∧ ((type_of% @std_gdS) ∧ (type_of% @std_gdU))) ∧ (((type_of% @std_cnd) ∧ (type_of% @std_it)) ∧ ((type_of% @bds) ∧ (type_of% @bdn)))) ∧ ((((type_of% @cndt) ∧ (type_of% @cndf)) ∧ ((type_of% @cndd) ∧ (type_of% @cndb))) ∧ (((type_of% @gdtt) ∧ (type_of% @gdff)) ∧ (type_of% @gdtf)))) ∧ (((((type_of% @gdft) ∧ (type_of% @gdun)) ∧ ((type_of% @gdSun) ∧ (type_of% @gdSt))) ∧ (((type_of% @gdSf) ∧ (type_of% @gdStf)) ∧ ((type_of% @gdSft) ∧ (type_of% @gdUt)))) ∧ ((((type_of% @gdUf) ∧ (type_of% @gdUtf)) ∧ ((type_of% @gdUft) ∧ (type_of% @pikt))) ∧ (((type_of% @pikf) ∧ (type_of% @eqb1)) ∧ (type_of% @neb1))))) ∧ ((((((type_of% @eqb0) ∧ (type_of% @neb0)) ∧ ((type_of% @eqb2) ∧ (type_of% @neb2))) ∧ (((type_of% @eqb3n) ∧ (type_of% @neb3n)) ∧ ((type_of% @eqb3nn) ∧ (type_of% @neb3nn)))) ∧ ((((type_of% @eqk1) ∧ (type_of% @eqb_agg)) ∧ ((type_of% @neb_agg) ∧ (type_of% @eqks_nil))) ∧ (((type_of% @eqks_cons) ∧ (type_of% @bin_add)) ∧ (type_of% @bin_sub)))) ∧ (((((type_of% @bin_mul) ∧ (type_of% @bin_lss)) ∧ ((type_of% @bin_leq) ∧ (type_of% @bin_gtr))) ∧ (((type_of% @bin_geq) ∧ (type_of% @un_notd)) ∧ ((type_of% @un_not) ∧ (type_of% @cvi_int)))) ∧ ((((type_of% @cvs_str) ∧ (type_of% @mn2_int)) ∧ ((type_of% @mx2_int) ∧ (type_of% @lenS_str))) ∧ (((type_of% @lenL_slc) ∧ (type_of% @bx_int)) ∧ (type_of% @bx_bool)))))) ∧ (((((((type_of% @bx_str) ∧ (type_of% @bx_ptr)) ∧ ((type_of% @bx_slc) ∧ (type_of% @bx_agg))) ∧ (((type_of% @lcl_eq) ∧ (type_of% @xtr_eq)) ∧ ((type_of% @cellsA_agg) ∧ (type_of% @spl_z)))) ∧ ((((type_of% @spl_c) ∧ (type_of% @spl_s)) ∧ ((type_of% @bld_nil) ∧ (type_of% @bld_cons))) ∧ (((type_of% @bls_nil) ∧ (type_of% @bls_cons)) ∧ (type_of% @prt_t)))) ∧ (((((type_of% @prt_f) ∧ (type_of% @nck_ptr)) ∧ ((type_of% @fld_ptr) ∧ (type_of% @lal_eq))) ∧ (((type_of% @stl_eq) ∧ (type_of% @decide_true)) ∧ ((type_of% @decide_false) ∧ (type_of% @decide_eq_true_eq)))) ∧ ((((type_of% @Bool.false_eq_true) ∧ (type_of% @Bool.not_true)) ∧ ((type_of% @Bool.not_false) ∧ (type_of% @Bool.and_true))) ∧ (((type_of% @Bool.and_false) ∧ (type_of% @Bool.true_and)) ∧ (type_of% @Bool.false_and))))) ∧ ((((((type_of% @Option.map_some.{0,0}) ∧ (type_of% @Option.map_none.{0,0})) ∧ ((type_of% @if_true.{1}) ∧ (type_of% @if_false.{1}))) ∧ (((type_of% @ite_true.{1}) ∧ (type_of% @ite_false.{1})) ∧ ((type_of% @and_self) ∧ (type_of% @and_true)))) ∧ ((((type_of% @true_and) ∧ (type_of% @false_and)) ∧ ((type_of% @and_false) ∧ (type_of% @true_or))) ∧ (((type_of% @or_true) ∧ (type_of% @false_or)) ∧ (type_of% @or_false)))) ∧ (((((type_of% @eq_self.{1}) ∧ (type_of% @ne_eq.{1})) ∧ ((type_of% @not_true_eq_false) ∧ (type_of% @not_false_eq_true))) ∧ (((type_of% @Nat.zero_add) ∧ (type_of% @Nat.le_refl)) ∧ ((type_of% @Nat.add_zero) ∧ (type_of% @Option.some.injEq.{0})))) ∧ ((((type_of% @Prod.mk.injEq.{0,0}) ∧ (type_of% @Value.agg.injEq)) ∧ ((type_of% @Value.bool.injEq) ∧ (type_of% @Value.int.injEq))) ∧ (((type_of% @Value.tuple.injEq) ∧ (type_of% @Array.mk.injEq.{0})) ∧ (type_of% @List.cons.injEq.{0})))))) := ⟨⟨⟨⟨⟨⟨⟨@std_bd, @std_gd⟩, ⟨@std_gdS, @std_gdU⟩⟩, ⟨⟨@std_cnd, @std_it⟩, ⟨@bds, @bdn⟩⟩⟩, ⟨⟨⟨@cndt, @cndf⟩, ⟨@cndd, @cndb⟩⟩, ⟨⟨@gdtt, @gdff⟩, @gdtf⟩⟩⟩, ⟨⟨⟨⟨@gdft, @gdun⟩, ⟨@gdSun, @gdSt⟩⟩, ⟨⟨@gdSf, @gdStf⟩, ⟨@gdSft, @gdUt⟩⟩⟩, ⟨⟨⟨@gdUf, @gdUtf⟩, ⟨@gdUft, @pikt⟩⟩, ⟨⟨@pikf, @eqb1⟩, @neb1⟩⟩⟩⟩, ⟨⟨⟨⟨⟨@eqb0, @neb0⟩, ⟨@eqb2, @neb2⟩⟩, ⟨⟨@eqb3n, @neb3n⟩, ⟨@eqb3nn, @neb3nn⟩⟩⟩, ⟨⟨⟨@eqk1, @eqb_agg⟩, ⟨@neb_agg, @eqks_nil⟩⟩, ⟨⟨@eqks_cons, @bin_add⟩, @bin_sub⟩⟩⟩, ⟨⟨⟨⟨@bin_mul, @bin_lss⟩, ⟨@bin_leq, @bin_gtr⟩⟩, ⟨⟨@bin_geq, @un_notd⟩, ⟨@un_not, @cvi_int⟩⟩⟩, ⟨⟨⟨@cvs_str, @mn2_int⟩, ⟨@mx2_int, @lenS_str⟩⟩, ⟨⟨@lenL_slc, @bx_int⟩, @bx_bool⟩⟩⟩⟩⟩, ⟨⟨⟨⟨⟨⟨@bx_str, @bx_ptr⟩, ⟨@bx_slc, @bx_agg⟩⟩, ⟨⟨@lcl_eq, @xtr_eq⟩, ⟨@cellsA_agg, @spl_z⟩⟩⟩, ⟨⟨⟨@spl_c, @spl_s⟩, ⟨@bld_nil, @bld_cons⟩⟩, ⟨⟨@bls_nil, @bls_cons⟩, @prt_t⟩⟩⟩, ⟨⟨⟨⟨@prt_f, @nck_ptr⟩, ⟨@fld_ptr, @lal_eq⟩⟩, ⟨⟨@stl_eq, @decide_true⟩, ⟨@decide_false, @decide_eq_true_eq⟩⟩⟩, ⟨⟨⟨@Bool.false_eq_true, @Bool.not_true⟩, ⟨@Bool.not_false, @Bool.and_true⟩⟩, ⟨⟨@Bool.and_false, @Bool.true_and⟩, @Bool.false_and⟩⟩⟩⟩, ⟨⟨⟨⟨⟨@Option.map_some.{0,0}, @Option.map_none.{0,0}⟩, ⟨@if_true.{1}, @if_false.{1}⟩⟩, ⟨⟨@ite_true.{1}, @ite_false.{1}⟩, ⟨@and_self, @and_true⟩⟩⟩, ⟨⟨⟨@true_and, @false_and⟩, ⟨@and_false, @true_or⟩⟩, ⟨⟨@or_true, @false_or⟩, @or_false⟩⟩⟩, ⟨⟨⟨⟨@eq_self.{1}, @ne_eq.{1}⟩, ⟨@not_true_eq_false, @not_false_eq_true⟩⟩, ⟨⟨@Nat.zero_add, @Nat.le_refl⟩, ⟨@Nat.add_zero, @Option.some.injEq.{0}⟩⟩⟩, ⟨⟨⟨@Prod.mk.injEq.{0,0}, @Value.agg.injEq⟩, ⟨@Value.bool.injEq, @Value.int.injEq⟩⟩, ⟨⟨@Value.tuple.injEq, @Array.mk.injEq.{0}⟩, @List.cons.injEq.{0}⟩⟩⟩⟩⟩⟩
theorem ly : (((((type_of% @List.length_cons.{0}) ∧ (type_of% @List.length_nil.{0})) ∧ (type_of% @List.getElem?_cons_zero.{0})) ∧ (((type_of% @List.getElem?_cons_succ.{0}) ∧ (type_of% @List.getElem?_nil.{0})) ∧ (type_of% @List.drop_succ_cons.{0}))) ∧ ((((type_of% @List.drop_zero.{0}) ∧ (type_of% @List.take_succ_cons.{0})) ∧ (type_of% @List.take_zero.{0})) ∧ ((type_of% @List.take_nil.{0}) ∧ (type_of% @List.drop_nil.{0})))) ∧ (((((type_of% @List.getD_cons_zero.{0}) ∧ (type_of% @List.getD_cons_succ.{0})) ∧ (type_of% @rep1)) ∧ ((type_of% @rep2) ∧ (type_of% @rep3))) ∧ ((((type_of% @rep4) ∧ (type_of% @List.set_cons_zero.{0})) ∧ (type_of% @List.set_cons_succ.{0})) ∧ ((type_of% @List.cons_append.{0}) ∧ (type_of% @List.nil_append.{0})))) := ⟨⟨⟨⟨⟨@List.length_cons.{0}, @List.length_nil.{0}⟩, @List.getElem?_cons_zero.{0}⟩, ⟨⟨@List.getElem?_cons_succ.{0}, @List.getElem?_nil.{0}⟩, @List.drop_succ_cons.{0}⟩⟩, ⟨⟨⟨@List.drop_zero.{0}, @List.take_succ_cons.{0}⟩, @List.take_zero.{0}⟩, ⟨@List.take_nil.{0}, @List.drop_nil.{0}⟩⟩⟩, ⟨⟨⟨⟨@List.getD_cons_zero.{0}, @List.getD_cons_succ.{0}⟩, @rep1⟩, ⟨@rep2, @rep3⟩⟩, ⟨⟨⟨@rep4, @List.set_cons_zero.{0}⟩, @List.set_cons_succ.{0}⟩, ⟨@List.cons_append.{0}, @List.nil_append.{0}⟩⟩⟩⟩
end Go.Sim
