/- Contracts of MechanicalWord and l10Mechanical: both make the word 'mechL'. Conditions: none beyond int64 arguments. -/
import Derived.Test.YtlmciomoimfajaaB0
import Derived.Deep.QuietTactic
import Derived.BigQuiet
namespace Go.Proofs.Ytlmciomoimfajaa
open Go.RowKit
set_option linter.unusedVariables false

/-- letter k of a mechanical word -/
def mechB (p q st : Int) (k : Nat) : Bool := decide ((st + (k : Int) * p) / q < (st + ((k : Int) + 1) * p) / q)
def mechL (p q st : Int) : Nat → List UInt8
  | 0 => []
  | k + 1 => mechL p q st k ++ [if mechB p q st k = true then 98 else 97]
theorem mechL_len (p q st : Int) : ∀ k, (mechL p q st k).length = k
  | 0 => rfl
  | k + 1 => by simp [mechL, mechL_len p q st k]
theorem mechL_b {p q st : Int} {k : Nat} (h : mechB p q st k = true) : mechL p q st (k + 1) = mechL p q st k ++ [98] := by rw [mechL, if_pos h]
theorem mechL_a {p q st : Int} {k : Nat} (h : ¬ mechB p q st k = true) : mechL p q st (k + 1) = mechL p q st k ++ [97] := by rw [mechL, if_neg h]
theorem mechB_iff {p q st : Int} {k : Nat} : mechB p q st k = true ↔ (st + (k : Int) * p) / q < (st + ((k : Int) + 1) * p) / q := by simp [mechB]
def mechOk (p q st n : Int) : Bool := inB q 1 100 && inB p 0 q && inB st 0 (q - 1) && inB n 0 400
theorem mechOk_iff {p q st n : Int} : mechOk p q st n = true ↔ 1 ≤ q ∧ q ≤ 100 ∧ 0 ≤ p ∧ p ≤ q ∧ 0 ≤ st ∧ st ≤ q - 1 ∧ 0 ≤ n ∧ n ≤ 400 := by
  simp only [mechOk, Bool.and_eq_true, inB_iff]; omega
theorem mech_mul {p : Int} {k : Nat} (hk : k ≤ 401) (h0 : 0 ≤ p) (h1 : p ≤ 100) : 0 ≤ (k : Int) * p ∧ (k : Int) * p ≤ 40100 := by
  constructor
  · exact Int.mul_nonneg (by omega) h0
  · have h : (k : Int) * p ≤ 401 * 100 := Int.mul_le_mul (by omega) h1 h0 (by omega)
    omega
theorem ediv_bd {x q m : Int} (hx : 0 ≤ x) (hq : 1 ≤ q) (hm : x ≤ m) : 0 ≤ x / q ∧ x / q ≤ m :=
  ⟨Int.ediv_nonneg hx (by omega), Int.le_trans (Int.ediv_le_self _ hx) hm⟩
theorem mech_mul1 {p : Int} {k : Nat} (hk : k ≤ 400) (h0 : 0 ≤ p) (h1 : p ≤ 100) : 0 ≤ ((k : Int) + 1) * p ∧ ((k : Int) + 1) * p ≤ 40100 := by
  have := mech_mul (p := p) (k := k + 1) (by omega) h0 h1
  simpa using this

theorem mechOk_no1 {p q st n : Int} (h : ¬ mechOk p q st n = true) (h1 : inB q 1 100 = true) : inB p 0 q = true → inB st 0 (q - 1) = true → (!inB n 0 400) = false → False := fun a b c => h (by simp only [Bool.not_eq_false'] at c; simp [mechOk, h1, a, b, c])
end Go.Proofs.Ytlmciomoimfajaa
