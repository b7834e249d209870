/- Plain lemmas: the sum of a list of numbers, its i-th number. No program in sight. -/
import Derived.Test.YtlmciomoimfajaaS0
namespace Go.Proofs.Ytlmciomoimfajaa
set_option linter.unusedVariables false

def sumL (l : List Int) : Int := l.foldl (· + ·) 0
theorem sumL_snoc (l : List Int) (x : Int) : sumL (l ++ [x]) = sumL l + x := by simp [sumL]
def gAt (l : List Int) (i : Nat) : Int := l.getD i 0
theorem gAt_get {l : List Int} {i : Nat} (h : i < l.length) : l[i]? = some (gAt l i) := by
  unfold gAt; rw [List.getD_eq_getElem?_getD, List.getElem?_eq_getElem h]; rfl
theorem gAt_of {l : List Int} {i : Nat} {x : Int} (h : l[i]? = some x) : gAt l i = x := by
  unfold gAt; rw [List.getD_eq_getElem?_getD, h]; rfl
theorem gAt_mem {X : List Int} {i : Nat} (h : i < X.length) : gAt X i ∈ X := List.mem_of_getElem? (gAt_get h)
theorem mem_gAt {X : List Int} {x : Int} (h : x ∈ X) : ∃ i, i < X.length ∧ gAt X i = x := by
  obtain ⟨i, hi, e⟩ := List.mem_iff_getElem.1 h
  have e1 := gAt_get (l := X) (i := i) hi
  rw [List.getElem?_eq_getElem hi] at e1
  exact ⟨i, hi, by rw [← Option.some.inj e1]; exact e⟩
theorem asc_gAt {X : List Int} (h : Asc X) : ∀ i j, i < j → j < X.length → gAt X i < gAt X j := by
  intro i j hij hj
  have := List.pairwise_iff_getElem.1 h i j (by omega) hj hij
  have e1 := gAt_get (l := X) (i := i) (by omega)
  have e2 := gAt_get (l := X) (i := j) hj
  rw [List.getElem?_eq_getElem (by omega)] at e1
  rw [List.getElem?_eq_getElem hj] at e2
  rw [← Option.some.inj e1, ← Option.some.inj e2]; exact this
end Go.Proofs.Ytlmciomoimfajaa
