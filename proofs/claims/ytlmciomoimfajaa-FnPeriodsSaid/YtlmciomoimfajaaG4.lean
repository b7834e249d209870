/- Contracts of QuotientsOf in the program and in the reference. Conditions: none beyond int64 arguments. -/
import Derived.Test.YtlmciomoimfajaaG1
import Derived.Test.YtlmciomoimfajaaM1
namespace Go.Proofs.Ytlmciomoimfajaa
open Go.RowKit
set_option linter.unusedVariables false

def quoL : Nat → Nat → Nat → List Int
  | 0, _, _ => []
  | f + 1, x, y => if y = 0 then [] else ((x / y : Nat) : Int) :: quoL f y (x % y)
theorem quoL_zero (f x : Nat) : quoL f x 0 = [] := by cases f <;> simp [quoL]
theorem quoL_step {f x y : Nat} (hf : y < f) (hy : y ≠ 0) : quoL f x y = ((x / y : Nat) : Int) :: quoL (f - 1) y (x % y) := by
  obtain ⟨g, rfl⟩ : ∃ g, f = g + 1 := ⟨f - 1, by omega⟩
  rw [quoL, if_neg hy]; rfl
theorem acc_step {α : Type} {acc : List α} {c : α} {r R : List α} (h : acc ++ c :: r = R) : Hid ((acc ++ [c]) ++ r = R) := by unfold Hid; rw [← h]; simp
theorem divcast (x y : Nat) : ((x : Int)).tdiv (y : Int) = ((x / y : Nat) : Int) := by rw [Int.tdiv_eq_ediv_of_nonneg (by omega)]; exact (Int.natCast_ediv _ _).symm
theorem divcast' (x y : Nat) : ((x : Int)) / (y : Int) = ((x / y : Nat) : Int) := (Int.natCast_ediv _ _).symm
def quoOk (p q : Int) : Bool := inB p 0 100000 && inB q 1 100000
def quoW (p q : Int) : List Int := if quoOk p q = true then quoL 100001 p.toNat q.toNat else []
theorem quoL_len : ∀ f x y, (quoL f x y).length ≤ f
  | 0, _, _ => by simp [quoL]
  | f + 1, x, y => by
    unfold quoL
    split
    · simp
    · have := quoL_len f y (x % y); simp only [List.length_cons]; omega
theorem quoW_len (p q : Int) : (quoW p q).length ≤ 100001 := by
  unfold quoW; split
  · exact quoL_len _ _ _
  · simp

end Go.Proofs.Ytlmciomoimfajaa
