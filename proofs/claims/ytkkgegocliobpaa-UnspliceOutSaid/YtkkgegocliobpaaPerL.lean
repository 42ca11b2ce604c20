/-
  Law 14's list: its ends are told their neighbours.
-/
import Derived.Test.YtkkgegocliobpaaPerK
set_option linter.unusedSimpArgs false
set_option linter.unusedVariables false
set_option maxRecDepth 100000
set_option maxHeartbeats 2000000
namespace Go.Proofs.Ytkkgegocliobpaa
open Go.Sim Go.Sim.Bt

/-- The same peer, with other records. -/
def LikeP (p q : Pr) : Prop := q.me = p.me ∧ q.en = p.en ∧ q.jo = p.jo ∧ q.ma = p.ma ∧ q.val = p.val ∧ q.vv = p.vv
/-- A lock is asked for, and got. -/
theorem vlock {p : Pr} {r : Rc} {s : St} {b : Nat} {t oa oo : Int} (f : Fresh s) (h : AtP p s b) (v : Vw p r) (ho : okO oa oo) (hr : r.held = false) :
    ∃ w s' q, leapfrogref09x_Peer_Ask.v (PP b) (.int .i64 t) (QC 3 zR zR oa oo) s = some (.tuple ⟨[w, .int .i64 0]⟩, s') ∧ Told s' w t (ofC p r) ∧ AtP q s' b ∧ Vw q (lockd r oa oo) ∧ LikeP p q ∧ StB b s s' := by
  have z : Zw (lockd r oa oo) := v.z
  have ok := setL_ok z v.one
  obtain ⟨w, s', e, t', A, k⟩ := lock_p (t := t) f h okV0 ho v.get (.inl hr) ok.1 ok.2
  exact ⟨w, s', _, e, t', A, v.set z (fun g => by cases g), ⟨rfl, rfl, rfl, rfl, rfl, rfl⟩, k⟩
/-- A right side is told. -/
theorem vright {p : Pr} {r : Rc} {s : St} {b : Nat} {t : Int} {x : Rf} (f : Fresh s) (h : AtP p s b) (v : Vw p r) (hr : r.held = true) (hx : okRef x) (hl : lessK p.me.rk p.me.n x.rk x.n) :
    ∃ w s' q, leapfrogref09x_Peer_Ask.v (PP b) (.int .i64 t) (QC 5 x zR r.ha r.ho) s = some (.tuple ⟨[w, .int .i64 0]⟩, s') ∧ Told s' w t okA ∧ AtP q s' b ∧ Vw q { r with r := x } ∧ LikeP p q ∧ StB b s s' := by
  have z : Zw { r with r := x } := v.z
  have ok := setL_ok z v.one
  obtain ⟨w, s', e, t', A, k⟩ := right_p (t := t) f h okV0 hx v.get hr hl ok.1 ok.2
  exact ⟨w, s', _, e, t', A, v.set z (fun g => by rw [show ({ r with r := x } : Rc).held = r.held from rfl, hr] at g; cases g), ⟨rfl, rfl, rfl, rfl, rfl, rfl⟩, k⟩
/-- A left side is told. -/
theorem vleft {p : Pr} {r : Rc} {s : St} {b : Nat} {t : Int} {x : Rf} (f : Fresh s) (h : AtP p s b) (v : Vw p r) (h0 : r.held = false → r.ha = 0 ∧ r.ho = 0) (hx : okRef x) (hl : lessK x.rk x.n p.me.rk p.me.n) :
    ∃ w s' q, leapfrogref09x_Peer_Ask.v (PP b) (.int .i64 t) (QC 6 x zR 0 0) s = some (.tuple ⟨[w, .int .i64 0]⟩, s') ∧ Told s' w t okA ∧ AtP q s' b ∧ Vw q { r with l := x } ∧ LikeP p q ∧ StB b s s' := by
  have z : Zw { r with l := x } := v.z
  have ok := setL_ok z v.one
  obtain ⟨w, s', e, t', A, k⟩ := left_p (t := t) f h okV0 hx v.get hl ok.1 ok.2
  exact ⟨w, s', _, e, t', A, v.set z h0, ⟨rfl, rfl, rfl, rfl, rfl, rfl⟩, k⟩
/-- A lock is given back. -/
theorem vfree {p : Pr} {r : Rc} {s : St} {b : Nat} {t : Int} (f : Fresh s) (h : AtP p s b) (v : Vw p r) (ho : okO r.ha r.ho) (hr : r.held = true) :
    ∃ w s' q, leapfrogref09x_Peer_Ask.v (PP b) (.int .i64 t) (QC 4 zR zR r.ha r.ho) s = some (.tuple ⟨[w, .int .i64 0]⟩, s') ∧ Told s' w t okA ∧ AtP q s' b ∧ Vw q (freed r) ∧ LikeP p q ∧ StB b s s' := by
  have z : Zw (freed r) := v.z
  have ok := setL_ok z v.one
  obtain ⟨w, s', e, t', A, k⟩ := free_p (t := t) f h okV0 v.get ho hr ok.1 ok.2
  exact ⟨w, s', _, e, t', A, v.set z (fun _ => ⟨rfl, rfl⟩), ⟨rfl, rfl, rfl, rfl, rfl, rfl⟩, k⟩
/-- A peer goes out. -/
theorem vout {p : Pr} {r : Rc} {s : St} {b : Nat} {t : Int} (f : Fresh s) (h : AtP p s b) (v : Vw p r) (hr : r.held = true) (he : p.en = false) :
    ∃ w s', leapfrogref09x_Peer_Ask.v (PP b) (.int .i64 t) (QC 8 zR zR r.ha r.ho) s = some (.tuple ⟨[w, .int .i64 0]⟩, s') ∧ Told s' w t okA ∧ AtP { p with L := [] } s' b ∧ StB b s s' := by
  obtain ⟨w, s', e, t', A, k⟩ := out_p (t := t) f h okV0 v.get hr he
  rw [v.out he] at A
  exact ⟨w, s', e, t', A, k⟩
/-- A record is read. -/
theorem vread {p : Pr} {r : Rc} {s : St} {b : Nat} {t : Int} (f : Fresh s) (h : AtP p s b) (v : Vw p r) :
    ∃ w s', leapfrogref09x_Peer_Ask.v (PP b) (.int .i64 t) (QC 1 zR zR 0 0) s = some (.tuple ⟨[w, .int .i64 0]⟩, s') ∧ Told s' w t (ofC p r) ∧ More s s' ∧ Fresh s' := by
  obtain ⟨w, s', e, t', m, f'⟩ := read_p (t := t) f h okV0
  rw [v.get] at t'
  exact ⟨w, s', e, t', m, f'⟩
end Go.Proofs.Ytkkgegocliobpaa
