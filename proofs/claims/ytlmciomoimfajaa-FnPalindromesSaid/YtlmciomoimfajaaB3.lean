/- Contracts of IsPalindrome in the program and in the reference, and the walk of their law. Condition: none (the law itself answers true for a longer string). -/
import Derived.Test.YtlmciomoimfajaaB2
namespace Go.Proofs.Ytlmciomoimfajaa
open Go.RowKit
set_option linter.unusedVariables false

def isPalW (s : ByteArray) : Bool := wordL s.data.toList && isPal s
theorem isPalindrome_i (s : ByteArray) (w : World) (hs : s.size ≤ 1073741824) :
    Calls Try.prog 63 #[.string s] w fun e w' => e = .returned (.bool (isPalW s)) ∧ Below w.heap.size w w' := by
  cases hw : wordL s.data.toList
  all_goals
    go_enter Try.func63, Try.ntmps63
    go_wp2_with (first | (go_at_call 85; refine (isWord_c _ _ (by unfold maxLen; omega)).mono ?_; rintro e w' ⟨rfl, rfl⟩) | (go_at_call 110; refine (isTurned_c _ _ hs).mono ?_; rintro e w' ⟨rfl, hb⟩))
    go_ret
    first
      | exact ⟨ret_bool (by simp [isPalW, hw]), by assumption⟩
      | exact ⟨ret_bool (by simp [isPalW, hw]), Below.refl _ _⟩
end Go.Proofs.Ytlmciomoimfajaa
