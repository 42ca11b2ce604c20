/-
  Rows of ticks and answers.
-/
import Derived.Test.YteapmnolmfickaaMachB
set_option linter.unusedSimpArgs false
set_option linter.unusedVariables false
set_option maxRecDepth 100000
namespace Go.Proofs.Yteapmnolmfickaa
open Go.Sim
structure OpA where
  wake:Bool
  a:Ans
abbrev OpA.cs (o:OpA):List Value:=.bool o.wake :: o.a.cs
def IsO (s:St) (v:Value) (l:List OpA):Prop :=
  (v=.slice none 0 0∧l=[])∨∃ b i e rows ro,v=.slice (some ⟨b,i,some 0⟩) l.length e∧s.get b=some (.row 14 rows ro)∧∀ (j:Nat) a,l[j]?=some a→rows[i+j]?=some a.cs
theorem IsO.len {s:St} {v:Value} {l:List OpA} (h:IsO s v l):lenL v=some (.int .i64 l.length):=by
  rcases h with ⟨rfl,rfl⟩ | ⟨b,i,e,rows,ro,rfl,_,_⟩ <;> rfl
theorem IsO.at {s:St} {v:Value} {l:List OpA} (h:IsO s v l) {j:Nat} {a:OpA} (hj:l[j]?=some a) :
    ∃ b k rows ro,idx s 14 v (.int .i64 (j:Int))=some (.pointer (some ⟨b,k,some 0⟩))∧s.get b=some (.row 14 rows ro)∧rows[k]?=some a.cs:=by
  rcases h with ⟨rfl,rfl⟩ | ⟨b,i,e,rows,ro,rfl,hg,hr⟩
  · simp at hj
  · have hlt:j < l.length:=(List.getElem?_eq_some_iff.1 hj).1
    refine ⟨b,i+j,rows,ro,?_,hg,hr j a hj⟩
    have:=idx_row (k:=.i64) (i:=i) (n:=(j:Int)) (len:=l.length) (e:=e) hg (by omega) (by omega)
    rwa [Int.toNat_natCast] at this
theorem IsO.keep {s s':St} {v:Value} {l:List OpA} (h:IsO s v l) (hk:∀ b rows ro,s.get b=some (.row 14 rows ro)→s'.get b=some (.row 14 rows ro)):IsO s' v l∧∀ j:Nat,j < l.length→idx s' 14 v (.int .i64 (j:Int))=idx s 14 v (.int .i64 (j:Int)):=by
  rcases h with ⟨rfl,rfl⟩ | ⟨b,i,e,rows,ro,rfl,hg,hr⟩
  · exact ⟨.inl ⟨rfl,rfl⟩,fun j hj=>absurd hj (Nat.not_lt_zero _)⟩
  · refine ⟨.inr ⟨b,i,e,rows,ro,rfl,hk _ _ _ hg,hr⟩,fun j hj=>?_⟩
    rw [idx_row (k:=.i64) (i:=i) (n:=(j:Int)) (len:=l.length) (e:=e) hg (by omega) (by omega),idx_row (k:=.i64) (i:=i) (n:=(j:Int)) (len:=l.length) (e:=e) (hk _ _ _ hg) (by omega) (by omega)]
end Go.Proofs.Yteapmnolmfickaa
