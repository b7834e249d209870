/- Contracts of BordersOf and PeriodsOf in the program and in the reference. Conditions: strings of at most 2^30 bytes. -/
import Derived.Test.YtlmciomoimfajaaDoorB9
import Derived.Test.YtlmciomoimfajaaDoorM1
namespace Go.Proofs.YtlmciomoimfajaaDoor
open Go.RowKit
set_option linter.unusedVariables false

/-- the numbers from n on, 'f' of them, that P keeps -/
def selL (P : Nat → Bool) : Nat → Nat → List Int
  | 0, _ => []
  | f + 1, n => if P n = true then (n : Int) :: selL P f (n + 1) else selL P f (n + 1)
theorem selL_len (P : Nat → Bool) : ∀ f n, (selL P f n).length ≤ f
  | 0, _ => by simp [selL]
  | f + 1, n => by
    have := selL_len P f (n + 1)
    unfold selL
    split
    · simp only [List.length_cons]; omega
    · omega
theorem sel_hit {P : Nat → Bool} {f n : Nat} {acc R : List Int} (h : acc ++ selL P f n = R) (hf : 0 < f) (hp : P n = true) : Hid ((acc ++ [(n : Int)]) ++ selL P (f - 1) (n + 1) = R) := by
  obtain ⟨g, rfl⟩ : ∃ g, f = g + 1 := ⟨f - 1, by omega⟩
  unfold Hid; rw [← h, selL, if_pos hp]; simp
theorem sel_miss {P : Nat → Bool} {f n : Nat} {acc R : List Int} (h : acc ++ selL P f n = R) (hf : 0 < f) (hp : P n = false) : Hid (acc ++ selL P (f - 1) (n + 1) = R) := by
  obtain ⟨g, rfl⟩ : ∃ g, f = g + 1 := ⟨f - 1, by omega⟩
  unfold Hid; rw [← h, selL, if_neg (by rw [hp]; decide)]; simp
theorem sel_end {P : Nat → Bool} {n : Nat} {acc R : List Int} (h : acc ++ selL P 0 n = R) : acc = R := by rw [← h, selL, List.append_nil]

def borB (s : ByteArray) (n : Nat) : Bool := (s.extract 0 n).toList == (s.extract (s.size - n) s.size).toList
def borW (s : ByteArray) : List Int := if wordL s.data.toList = true then selL (borB s) (s.size - 1) 1 else []
def perW (s : ByteArray) : List Int := if wordL s.data.toList = true then selL (powB s.data.toList 0 s.size) s.size 1 else []
theorem borW_len (s : ByteArray) : (borW s).length ≤ s.size := by
  unfold borW; split
  · have := selL_len (borB s) (s.size - 1) 1; omega
  · simp
theorem perW_len (s : ByteArray) : (perW s).length ≤ s.size := by
  unfold perW; split
  · exact selL_len _ _ _
  · simp

end Go.Proofs.YtlmciomoimfajaaDoor
