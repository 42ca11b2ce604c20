/-
  The document's peer in memory: what it reads of its records.
-/
import Derived.Test.YteiagjbjokldgaaMachV
set_option linter.unusedSimpArgs false
set_option linter.unusedVariables false
set_option maxRecDepth 100000
set_option maxHeartbeats 2000000
namespace Go.Proofs.Yteiagjbjokldgaa
open Go.Sim Go.Sim.Bt
attribute [local congr] bdc cndc itec gdc gdSc gdUc

/-- A record; nobody waits for its lock. -/
structure Rc where
  wl : Int
  wb : Int
  l : Rf
  r : Rf
  held : Bool
  ha : Int
  ho : Int
abbrev Rc.cs (x : Rc) : List Value :=
  [.int .i64 x.wl, .int .u64 x.wb, .int .i64 x.l.id, .int .i64 x.l.rk, .int .u64 x.l.n, .int .i64 x.l.ln, .int .u64 x.l.bt, .int .i64 x.r.id, .int .i64 x.r.rk, .int .u64 x.r.n, .int .i64 x.r.ln, .int .u64 x.r.bt, .bool x.held, .int .i64 x.ha, .int .i64 x.ho, .slice none 0 0]
abbrev zRc : Rc := ⟨0, 0, zR, zR, false, 0, 0⟩
/-- A peer; nobody waits for it. -/
structure Pr where
  me : Rf
  en : Bool
  jo : Bool
  ma : Bool
  val : List (List Value)
  vv : Value
  L : List Rc
abbrev prow (p : Pr) (vv lv : Value) : List Value :=
  [.int .i64 p.me.id, .int .i64 p.me.rk, .int .u64 p.me.n, .int .i64 p.me.ln, .int .u64 p.me.bt, vv, .bool p.en, .bool p.jo, .bool p.ma, lv, .slice none 0 0]
abbrev PP (b : Nat) : Value := .pointer (some ⟨b, 0, some 0⟩)
abbrev PRow (s : St) (b : Nat) (cs : List Value) : Prop := s.get b = some (.row 11 [cs] false)
/-- A value's slice, and its bytes. -/
structure VB (s : St) (v : Value) (val : List (List Value)) (w : Value) : Prop where
  b : Byt s v val
  e : v = w
theorem VB.stp {ks : List Nat} {s s' : St} {v w : Value} {val : List (List Value)} (h : VB s v val w) (k : StpK ks s s') (hn : 1 ∉ ks) : VB s' v val w := ⟨h.b.stp k hn, h.e⟩
structure AtP (p : Pr) (s : St) (b : Nat) : Prop where
  ex : ∃ vv lv, PRow s b (prow p vv lv) ∧ IsR s 16 lv (p.L.map Rc.cs) ∧ VB s vv p.val p.vv
  n : p.L.length ≤ 1000
  ok : ∀ r ∈ p.L, okV r.wl r.wb
  hm : okV p.me.ln p.me.bt
  hv : p.val.length ≤ 1024
/-- A step that changes one block, and else makes new ones. -/
structure StB (b : Nat) (s s' : St) : Prop where
  n : s.n ≤ s'.n
  old : ∀ x k, s.get x = some k → x ≠ b → s'.get x = some k
  eq : ∀ x, x < s.n → x ≠ b → s'.get x = s.get x
  fr : Fresh s → Fresh s'
theorem StB.refl (b : Nat) (s : St) : StB b s s := ⟨Nat.le_refl _, fun _ _ h _ => h, fun _ _ _ => rfl, id⟩
theorem StB.trans {b : Nat} {s t u : St} (h : StB b s t) (k : StB b t u) : StB b s u := ⟨Nat.le_trans h.n k.n, fun x y hx hb => k.old x y (h.old x y hx hb) hb, fun x hx hb => by rw [k.eq x (Nat.lt_of_lt_of_le hx h.n) hb, h.eq x hx hb], fun f => k.fr (h.fr f)⟩
theorem StB.more {b : Nat} {s t : St} (m : More s t) (f : Fresh s) : StB b s t := ⟨m.n, fun x k h _ => m.get f h, fun x hx _ => m.old x hx, m.fresh⟩
theorem StB.put {b : Nat} {s : St} {x : Blk} : StB b s (s.put b x) := ⟨Nat.le_refl _, fun y k h hb => by rw [get_put_ne hb]; exact h, fun y _ hb => get_put_ne hb, fun f => f.put⟩
/-- Of a new one. -/
theorem StB.new {b : Nat} {s0 s s' : St} (m : More s0 s) (k : StB b s s') (hb : s0.n ≤ b) : More s0 s' :=
  ⟨Nat.le_trans m.n k.n, fun x hx => by rw [k.eq x (Nat.lt_of_lt_of_le hx m.n) (by omega), m.old x hx], fun f => k.fr (m.fresh f)⟩
theorem StB.toK {c : Nat} {s s' : St} (k : StB c s s') {X : List Value} (hc : PRow s c X) : StpK [11] s s' :=
  ⟨k.n, fun x y hx hy => k.old x y hx fun e => by subst e; rw [hc] at hx; cases hx; simp [kd] at hy, k.fr⟩
theorem AtP.stp {ks : List Nat} {p : Pr} {s s' : St} {b : Nat} (h : AtP p s b) (k : StpK ks s s') (h1 : 11 ∉ ks) (h2 : 16 ∉ ks) (h3 : 1 ∉ ks) : AtP p s' b := by
  obtain ⟨vv, lv, g1, g2, g3⟩ := h.ex
  exact ⟨⟨vv, lv, k.row g1 h1, g2.stp k h2, g3.stp k h3⟩, h.n, h.ok, h.hm, h.hv⟩
theorem AtP.more {p : Pr} {s s' : St} {b : Nat} (h : AtP p s b) (m : More s s') (f : Fresh s) : AtP p s' b := h.stp (ks := []) (.more m f) (by simp) (by simp) (by simp)
/-- Another peer's step. -/
theorem AtP.stb {p : Pr} {s s' : St} {b c : Nat} (h : AtP p s b) (k : StB c s s') {X : List Value} (hc : PRow s c X) (hn : b ≠ c) : AtP p s' b := by
  obtain ⟨vv, lv, g1, g2, g3⟩ := h.ex
  exact ⟨⟨vv, lv, k.old _ _ g1 hn, g2.stp (k.toK hc) (by simp), g3.stp (k.toK hc) (by simp)⟩, h.n, h.ok, h.hm, h.hv⟩
theorem okV_in {L B : Int} (h : okV L B) : 0 ≤ L ∧ L ≤ 32 ∧ 0 ≤ B := by
  obtain ⟨n, b, rfl, rfl, h1, h2⟩ := h
  omega

abbrev endL (h : Int) : Rf := ⟨0, 1, 0, h, 0⟩
abbrev endR (h : Int) : Rf := ⟨1, 3, 0, h, 0⟩
theorem r9head_r (h : Int) (h0 : 0 ≤ h) (h1 : h ≤ 32) (s : St) : leapfrogref09x_Head.r (.int .i64 h) s = some (.tuple ⟨[.agg ⟨(endL h).cs⟩, .int .i64 0]⟩) := by
  have e1 : ¬ (h < 0) := by omega
  have e2 : ¬ (32 < h) := by omega
  simp only [leapfrogref09x_Head.r, leapfrogref09x_Head.t, sy, reduceIte, Nat.reduceAdd, Nat.reduceLeDiff, Nat.reduceLT, Nat.reduceEqDiff, Int.reduceEq, Int.reduceLT, Int.reduceLE, Int.reduceNe, ly, e1, e2]
theorem r9tail_r (h : Int) (h0 : 0 ≤ h) (h1 : h ≤ 32) (s : St) : leapfrogref09x_Tail.r (.int .i64 h) s = some (.tuple ⟨[.agg ⟨(endR h).cs⟩, .int .i64 0]⟩) := by
  have e1 : ¬ (h < 0) := by omega
  have e2 : ¬ (32 < h) := by omega
  simp only [leapfrogref09x_Tail.r, leapfrogref09x_Tail.t, sy, reduceIte, Nat.reduceAdd, Nat.reduceLeDiff, Nat.reduceLT, Nat.reduceEqDiff, Int.reduceEq, Int.reduceLT, Int.reduceLE, Int.reduceNe, ly, e1, e2]
def firstC (p : Pr) (wl wb : Int) : Rc := if p.me.rk = 1 then ⟨wl, wb, zR, endR p.me.ln, false, 0, 0⟩ else ⟨wl, wb, endL p.me.ln, zR, false, 0, 0⟩
theorem first_r {p : Pr} {s : St} {b : Nat} {vv lv : Value} (h : PRow s b (prow p vv lv)) (hm : okV p.me.ln p.me.bt) (wl wb : Int) : leapfrogref09x_Peer_first.r (PP b) (VI wl wb) s = some (.agg ⟨(firstC p wl wb).cs⟩) := by
  obtain ⟨m1, m2, _⟩ := okV_in hm
  have hd := r9head_r p.me.ln m1 m2 s
  have tl := r9tail_r p.me.ln m1 m2 s
  unfold firstC
  by_cases k : p.me.rk = 1
  · rw [if_pos k]
    simp only [leapfrogref09x_Peer_first.r, leapfrogref09x_Peer_first.t, sy, reduceIte, Nat.reduceAdd, Nat.reduceLeDiff, Nat.reduceLT, Nat.reduceEqDiff, Int.reduceEq, Int.reduceLT, Int.reduceLE, Int.reduceNe, ly, ldc_row h, k, tl]
  · rw [if_neg k]
    simp only [leapfrogref09x_Peer_first.r, leapfrogref09x_Peer_first.t, sy, reduceIte, Nat.reduceAdd, Nat.reduceLeDiff, Nat.reduceLT, Nat.reduceEqDiff, Int.reduceEq, Int.reduceLT, Int.reduceLE, Int.reduceNe, ly, ldc_row h, k, hd]
def hasC (p : Pr) (wl wb : Int) : Prop := if p.en = true then okV wl wb ∧ wl ≤ p.me.ln else BG p.me.ln p.me.bt wl wb
open Classical in
theorem list9_r {p : Pr} {s : St} {b : Nat} {vv lv : Value} (f : Fresh s) (h : PRow s b (prow p vv lv)) (hm : okV p.me.ln p.me.bt) (wl wb : Int) (hw : 0 ≤ wb) : leapfrogref09x_Peer_list.r (PP b) (VI wl wb) s = some (.bool (decide (hasC p wl wb))) := by
  have r1 := rright_i wl wb hw s
  have b1 := rbegins_i p.me.ln p.me.bt wl wb (okV_in hm).2.2 hw s f
  by_cases hk : hasC p wl wb
  · rw [decide_eq_true hk]
    unfold hasC at hk
    cases en : p.en with
    | true =>
      rw [en, if_pos rfl] at hk
      have k2 := hk.2
      rw [decide_eq_true hk.1] at r1
      simp only [leapfrogref09x_Peer_list.r, leapfrogref09x_Peer_list.t, sy, reduceIte, Nat.reduceAdd, Nat.reduceLeDiff, Nat.reduceLT, Nat.reduceEqDiff, Int.reduceEq, Int.reduceLT, Int.reduceLE, Int.reduceNe, ly, ldc_row h, en, r1, k2]
    | false =>
      rw [en, if_neg (by decide)] at hk
      rw [decide_eq_true hk] at b1
      simp only [leapfrogref09x_Peer_list.r, leapfrogref09x_Peer_list.t, sy, reduceIte, Nat.reduceAdd, Nat.reduceLeDiff, Nat.reduceLT, Nat.reduceEqDiff, Int.reduceEq, Int.reduceLT, Int.reduceLE, Int.reduceNe, ly, ldc_row h, lda_row h, en, b1]
  · rw [decide_eq_false hk]
    unfold hasC at hk
    cases en : p.en with
    | true =>
      rw [en, if_pos rfl] at hk
      by_cases k1 : okV wl wb
      · have k2 : ¬ wl ≤ p.me.ln := fun g => hk ⟨k1, g⟩
        rw [decide_eq_true k1] at r1
        simp only [leapfrogref09x_Peer_list.r, leapfrogref09x_Peer_list.t, sy, reduceIte, Nat.reduceAdd, Nat.reduceLeDiff, Nat.reduceLT, Nat.reduceEqDiff, Int.reduceEq, Int.reduceLT, Int.reduceLE, Int.reduceNe, ly, ldc_row h, en, r1, k2]
      · rw [decide_eq_false k1] at r1
        simp only [leapfrogref09x_Peer_list.r, leapfrogref09x_Peer_list.t, sy, reduceIte, Nat.reduceAdd, Nat.reduceLeDiff, Nat.reduceLT, Nat.reduceEqDiff, Int.reduceEq, Int.reduceLT, Int.reduceLE, Int.reduceNe, ly, ldc_row h, en, r1]
    | false =>
      rw [en, if_neg (by decide)] at hk
      rw [decide_eq_false hk] at b1
      simp only [leapfrogref09x_Peer_list.r, leapfrogref09x_Peer_list.t, sy, reduceIte, Nat.reduceAdd, Nat.reduceLeDiff, Nat.reduceLT, Nat.reduceEqDiff, Int.reduceEq, Int.reduceLT, Int.reduceLE, Int.reduceNe, ly, ldc_row h, lda_row h, en, b1]
def isW (wl wb : Int) (r : Rc) : Bool := decide (r.wl = wl ∧ r.wb = wb)
open Classical in
/-- Its record of a list. -/
noncomputable def getC (p : Pr) (wl wb : Int) : Option Rc :=
  match p.L.find? (isW wl wb) with
  | some r => some r
  | none => if p.en = true ∧ hasC p wl wb then some (firstC p wl wb) else none
def gotC (o : Option Rc) : List Value := (o.getD zRc).cs
theorem rc_get {l : List Rc} {j : Nat} {x : Rc} (h : l[j]? = some x) : (l.map Rc.cs)[j]? = some x.cs := by rw [List.getElem?_map, h]; rfl
open Classical in
theorem rec_r {p : Pr} {s : St} {b : Nat} (f : Fresh s) (h : AtP p s b) (wl wb : Int) (hw : 0 ≤ wb) : leapfrogref09x_Peer_rec.r (PP b) (VI wl wb) s = some (.tuple ⟨[.agg ⟨gotC (getC p wl wb)⟩, .bool (getC p wl wb).isSome]⟩) := by
  obtain ⟨vv, lv, h1, h2, _⟩ := h.ex
  have hlen := h2.len
  rw [List.length_map] at hlen
  have hn := h.n
  have loop : iter (leapfrogref09x_Peer_rec.l2 std) BIG [PP b, .int .i64 ((0 : Nat) : Int), VI wl wb, .agg ⟨zRc.cs⟩] s =
      (match p.L.find? (isW wl wb) with
      | some r => some ((1, [.bool true, .agg ⟨r.cs⟩], s) : Cut)
      | none => some ((0, [PP b, VI wl wb, .agg ⟨zRc.cs⟩], s) : Cut)) := by
    refine iter_rel (fun d xs s' => ∃ i : Nat, i + d = p.L.length ∧ s' = s ∧ p.L.find? (isW wl wb) = (p.L.drop i).find? (isW wl wb) ∧ xs = [PP b, .int .i64 (i : Int), VI wl wb, .agg ⟨zRc.cs⟩])
      (fun y : Option Cut => y = (match p.L.find? (isW wl wb) with
      | some r => some ((1, [.bool true, .agg ⟨r.cs⟩], s) : Cut)
      | none => some ((0, [PP b, VI wl wb, .agg ⟨zRc.cs⟩], s) : Cut))) ?_ BIG p.L.length _ s (by unfold BIG; omega) ⟨0, by omega, rfl, by rw [List.drop_zero], rfl⟩
    rintro d xs s' rec ⟨i, hi, rfl, hf, rfl⟩ ih
    cases d with
    | zero =>
      have e1 : ¬ ((i : Int) < p.L.length) := by omega
      rw [hf, List.drop_of_length_le (by omega)]
      simp only [List.find?_nil]
      simp only [leapfrogref09x_Peer_rec.l2, sy, reduceIte, Nat.reduceAdd, Nat.reduceLeDiff, Nat.reduceLT, Nat.reduceEqDiff, Int.reduceEq, Int.reduceLT, Int.reduceLE, Int.reduceNe, ly, ldc_row h1, hlen, e1]
    | succ d =>
      have e1 : (i : Int) < p.L.length := by omega
      have e5 : IntKind.i64.wrap ((i : Int) + 1) = ((i + 1 : Nat) : Int) := by rw [wrap64 (by omega) (by omega)]; omega
      obtain ⟨x, hx⟩ := get_some (l := p.L) (j := i) (by omega)
      obtain ⟨o, al, ro, a1, a2, a3⟩ := h2.at (rc_get hx)
      have hd : p.L.drop i = x :: p.L.drop (i + 1) := by
        rw [List.drop_eq_getElem_cons (by omega)]
        rw [List.getElem?_eq_getElem (by omega), Option.some.injEq] at hx
        rw [hx]
      rw [hd] at hf
      have go : isW wl wb x = false → rec [PP b, .int .i64 ((i + 1 : Nat) : Int), VI wl wb, .agg ⟨zRc.cs⟩] s' = _ := fun g => ih d _ _ (by omega) ⟨i + 1, by omega, rfl, by rw [hf, List.find?_cons, g], rfl⟩
      rcases Classical.propComplete (x.wl = wl) with k1 | k1
      · rcases Classical.propComplete (x.wb = wb) with k2 | k2
        · have g : isW wl wb x = true := by unfold isW; exact decide_eq_true ⟨of_eq_true k1, of_eq_true k2⟩
          rw [hf, List.find?_cons, g]
          simp only [leapfrogref09x_Peer_rec.l2, sy, reduceIte, Nat.reduceAdd, Nat.reduceLeDiff, Nat.reduceLT, Nat.reduceEqDiff, Int.reduceEq, Int.reduceLT, Int.reduceLE, Int.reduceNe, ly, ldc_row h1, hlen, e1, a1, lda_row a2, a3, k1, k2]
        · have g : isW wl wb x = false := by unfold isW; exact decide_eq_false fun g => of_eq_false k2 g.2
          rw [← go g]
          simp only [leapfrogref09x_Peer_rec.l2, sy, reduceIte, Nat.reduceAdd, Nat.reduceLeDiff, Nat.reduceLT, Nat.reduceEqDiff, Int.reduceEq, Int.reduceLT, Int.reduceLE, Int.reduceNe, ly, ldc_row h1, hlen, e1, a1, lda_row a2, a3, k1, k2, e5]
      · have g : isW wl wb x = false := by unfold isW; exact decide_eq_false fun g => of_eq_false k1 g.1
        rw [← go g]
        simp only [leapfrogref09x_Peer_rec.l2, sy, reduceIte, Nat.reduceAdd, Nat.reduceLeDiff, Nat.reduceLT, Nat.reduceEqDiff, Int.reduceEq, Int.reduceLT, Int.reduceLE, Int.reduceNe, ly, ldc_row h1, hlen, e1, a1, lda_row a2, a3, k1, e5]
  rw [show ((0 : Nat) : Int) = 0 from rfl] at loop
  have ls := list9_r f h1 h.hm wl wb hw
  have fs := first_r h1 h.hm wl wb
  unfold getC
  cases hf : p.L.find? (isW wl wb) with
  | some r =>
    rw [hf] at loop
    simp only [gotC, Option.getD_some, Option.isSome_some, leapfrogref09x_Peer_rec.r, leapfrogref09x_Peer_rec.t, sy, reduceIte, Nat.reduceAdd, Nat.reduceLeDiff, Nat.reduceLT, Nat.reduceEqDiff, Int.reduceEq, Int.reduceLT, Int.reduceLE, Int.reduceNe, ly, loop]
  | none =>
    rw [hf] at loop
    cases en : p.en with
    | false => simp only [gotC, Option.getD_none, Option.isSome_none, leapfrogref09x_Peer_rec.r, leapfrogref09x_Peer_rec.t, sy, reduceIte, Nat.reduceAdd, Nat.reduceLeDiff, Nat.reduceLT, Nat.reduceEqDiff, Int.reduceEq, Int.reduceLT, Int.reduceLE, Int.reduceNe, ly, loop, ldc_row h1, en]
    | true =>
      by_cases k : hasC p wl wb
      · rw [decide_eq_true k] at ls
        simp only [gotC, k, Option.getD_some, Option.isSome_some, leapfrogref09x_Peer_rec.r, leapfrogref09x_Peer_rec.t, sy, reduceIte, Nat.reduceAdd, Nat.reduceLeDiff, Nat.reduceLT, Nat.reduceEqDiff, Int.reduceEq, Int.reduceLT, Int.reduceLE, Int.reduceNe, ly, loop, ldc_row h1, en, ls, fs]
      · rw [decide_eq_false k] at ls
        simp only [gotC, k, Option.getD_none, Option.isSome_none, leapfrogref09x_Peer_rec.r, leapfrogref09x_Peer_rec.t, sy, reduceIte, Nat.reduceAdd, Nat.reduceLeDiff, Nat.reduceLT, Nat.reduceEqDiff, Int.reduceEq, Int.reduceLT, Int.reduceLE, Int.reduceNe, ly, loop, ldc_row h1, en, ls]
/-- What it tells of a record. -/
def ofC (p : Pr) (r : Rc) : Ans := ⟨1, p.ma, r.l, r.r, .slice none 0 0⟩
theorem ofp_r {p : Pr} {s : St} {b : Nat} {vv lv : Value} (h : PRow s b (prow p vv lv)) (r : Rc) : leapfrogref09x_Peer_of.r (PP b) (.agg ⟨r.cs⟩) s = some (.agg ⟨(ofC p r).cs⟩) := by
  simp only [leapfrogref09x_Peer_of.r, leapfrogref09x_Peer_of.t, sy, reduceIte, Nat.reduceAdd, Nat.reduceLeDiff, Nat.reduceLT, Nat.reduceEqDiff, Int.reduceEq, Int.reduceLT, Int.reduceLE, Int.reduceNe, ly, ldc_row h, ofC]
/-- One answer, told at once. -/
theorem told_r (t : Int) (a : Ans) (s : St) : leapfrogref09x_told.v (.int .i64 t) (.agg ⟨a.cs⟩) s = some (.slice (some ⟨s.n, 0, some 0⟩) 1 2, s.new (.row 14 [.int .i64 t :: a.cs] false)) := by
  simp only [leapfrogref09x_told.v, leapfrogref09x_told.t, sy, reduceIte, Nat.reduceAdd, Nat.reduceLeDiff, Nat.reduceLT, Nat.reduceEqDiff, Int.reduceEq, Int.reduceLT, Int.reduceLE, Int.reduceNe, ly, als_eq]
def sameF (a b : Rf) : Bool := decide (a.id = b.id) && (decide (a.rk = b.rk) && (decide (a.n = b.n) && (decide (a.ln = b.ln) && decide (a.bt = b.bt))))
theorem eqks_f (x y : Rf) : eqks [1, 1, 1, 1, 1] x.cs y.cs = some (sameF x y) := by
  simp only [sy, reduceIte, Nat.reduceAdd, Nat.reduceLeDiff, Nat.reduceLT, Nat.reduceEqDiff, Int.reduceEq, Int.reduceLT, Int.reduceLE, Int.reduceNe, ly, sameF]
def plainC (p : Pr) (r : Rc) : Bool := p.en && (sameF r.l (firstC p r.wl r.wb).l && (sameF r.r (firstC p r.wl r.wb).r && !r.held))
theorem plain_r {p : Pr} {s : St} {b : Nat} {vv lv : Value} (h : PRow s b (prow p vv lv)) (hm : okV p.me.ln p.me.bt) (r : Rc) : leapfrogref09x_Peer_plain.r (PP b) (.agg ⟨r.cs⟩) s = some (.bool (plainC p r)) := by
  have fs := first_r h hm r.wl r.wb
  generalize hq : firstC p r.wl r.wb = q at *
  have e1 := eqks_f r.l q.l
  have e2 := eqks_f r.r q.r
  simp only [Rf.cs] at e1 e2
  unfold plainC
  rw [hq]
  cases en : p.en with
  | false => simp only [leapfrogref09x_Peer_plain.r, leapfrogref09x_Peer_plain.t, sy, reduceIte, Nat.reduceAdd, Nat.reduceLeDiff, Nat.reduceLT, Nat.reduceEqDiff, Int.reduceEq, Int.reduceLT, Int.reduceLE, Int.reduceNe, ly, ldc_row h, fs, en]
  | true =>
    cases k1 : sameF r.l q.l with
    | false =>
      rw [k1] at e1
      simp only [leapfrogref09x_Peer_plain.r, leapfrogref09x_Peer_plain.t, eqb_agg, sy, reduceIte, Nat.reduceAdd, Nat.reduceLeDiff, Nat.reduceLT, Nat.reduceEqDiff, Int.reduceEq, Int.reduceLT, Int.reduceLE, Int.reduceNe, ly, ldc_row h, fs, en, e1]
    | true =>
      rw [k1] at e1
      cases k2 : sameF r.r q.r with
      | false =>
        rw [k2] at e2
        simp only [leapfrogref09x_Peer_plain.r, leapfrogref09x_Peer_plain.t, eqb_agg, sy, reduceIte, Nat.reduceAdd, Nat.reduceLeDiff, Nat.reduceLT, Nat.reduceEqDiff, Int.reduceEq, Int.reduceLT, Int.reduceLE, Int.reduceNe, ly, ldc_row h, fs, en, e1, e2]
      | true =>
        rw [k2] at e2
        cases k3 : r.held with
        | false => simp only [leapfrogref09x_Peer_plain.r, leapfrogref09x_Peer_plain.t, eqb_agg, sy, reduceIte, Nat.reduceAdd, Nat.reduceLeDiff, Nat.reduceLT, Nat.reduceEqDiff, Int.reduceEq, Int.reduceLT, Int.reduceLE, Int.reduceNe, ly, ldc_row h, fs, en, e1, e2, k3]
        | true => simp only [leapfrogref09x_Peer_plain.r, leapfrogref09x_Peer_plain.t, eqb_agg, sy, reduceIte, Nat.reduceAdd, Nat.reduceLeDiff, Nat.reduceLT, Nat.reduceEqDiff, Int.reduceEq, Int.reduceLT, Int.reduceLE, Int.reduceNe, ly, ldc_row h, fs, en, e1, e2, k3]
end Go.Proofs.Yteiagjbjokldgaa
