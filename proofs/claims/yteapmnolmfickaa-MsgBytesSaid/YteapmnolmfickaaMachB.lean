/-
  Rows of answers.
-/
import Derived.Test.YteapmnolmfickaaMachA
set_option linter.unusedSimpArgs false
set_option linter.unusedVariables false
set_option maxRecDepth 100000
namespace Go.Proofs.Yteapmnolmfickaa
open Go.Sim
def IsA (s:St) (v:Value) (l:List Ans):Prop :=
  (v=.slice none 0 0∧l=[])∨∃ b i e rows ro,v=.slice (some ⟨b,i,some 0⟩) l.length e∧s.get b=some (.row 13 rows ro)∧∀ (j:Nat) a,l[j]?=some a→rows[i+j]?=some a.cs
theorem IsA.len {s:St} {v:Value} {l:List Ans} (h:IsA s v l):lenL v=some (.int .i64 l.length):=by
  rcases h with ⟨rfl,rfl⟩ | ⟨b,i,e,rows,ro,rfl,_,_⟩ <;> rfl
theorem IsA.at {s:St} {v:Value} {l:List Ans} (h:IsA s v l) {j:Nat} {a:Ans} (hj:l[j]?=some a) :
    ∃ b k rows ro,idx s 13 v (.int .i64 (j:Int))=some (.pointer (some ⟨b,k,some 0⟩))∧s.get b=some (.row 13 rows ro)∧rows[k]?=some a.cs:=by
  rcases h with ⟨rfl,rfl⟩ | ⟨b,i,e,rows,ro,rfl,hg,hr⟩
  · simp at hj
  · have hlt:j < l.length:=(List.getElem?_eq_some_iff.1 hj).1
    refine ⟨b,i+j,rows,ro,?_,hg,hr j a hj⟩
    have:=idx_row (k:=.i64) (i:=i) (n:=(j:Int)) (len:=l.length) (e:=e) hg (by omega) (by omega)
    rwa [Int.toNat_natCast] at this
theorem IsA.load {s:St} {v:Value} {l:List Ans} (h:IsA s v l) {j:Nat} {a:Ans} (hj:l[j]?=some a) :
    ∃ p,idx s 13 v (.int .i64 (j:Int))=some p∧lda s 13 p=some (.agg ⟨a.cs⟩):=by
  obtain ⟨b,k,rows,ro,h1,h2,h3⟩:=h.at hj
  refine ⟨_,h1,?_⟩
  rw [lda_row h2,h3]
  rfl
theorem IsA.more {s s':St} {v:Value} {l:List Ans} (h:IsA s v l) (hm:More s s') (hf:Fresh s):IsA s' v l:=by
  rcases h with ⟨rfl,rfl⟩ | ⟨b,i,e,rows,ro,rfl,hg,hr⟩
  · exact .inl ⟨rfl,rfl⟩
  · exact .inr ⟨b,i,e,rows,ro,rfl,hm.get hf hg,hr⟩
theorem IsA.keep {s s':St} {v:Value} {l:List Ans} {n0:Nat} (h:IsA s v l) (hn:∀ b i len e,v=.slice (some ⟨b,i,some 0⟩) len e→b < n0) (hk:Keep n0 s s'):IsA s' v l:=by
  rcases h with ⟨rfl,rfl⟩ | ⟨b,i,e,rows,ro,rfl,hg,hr⟩
  · exact .inl ⟨rfl,rfl⟩
  · exact .inr ⟨b,i,e,rows,ro,rfl,by rw [hk.old b (hn _ _ _ _ rfl)]; exact hg,hr⟩
end Go.Proofs.Yteapmnolmfickaa
