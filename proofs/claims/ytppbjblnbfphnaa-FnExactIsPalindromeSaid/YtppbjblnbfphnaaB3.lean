/- Contracts of IsPalindrome in the program and in the reference, and the walk of their law. Condition: none (the law itself answers true for a longer string). -/
import Derived.Test.YtppbjblnbfphnaaB2
namespace Go.Proofs.Ytppbjblnbfphnaa
open Go.RowKit
set_option linter.unusedVariables false

def isPalW (s : ByteArray) : Bool := wordL s.data.toList && isPal s
theorem isPalindrome_i (s : ByteArray) (w : World) (hs : s.size ≤ 1073741824) :
    Calls Try.prog 18 #[.string s] w fun e w' => e = .returned (.bool (isPalW s)) ∧ Below w.heap.size w w' := by
  cases hw : wordL s.data.toList
  all_goals
    go_enter Try.func18, Try.ntmps18
    go_wp2_with (first | (go_at_call 29; refine (isWord_c _ _ (by unfold maxLen; omega)).mono ?_; rintro e w' ⟨rfl, rfl⟩) | (go_at_call 30; refine (isTurned_c _ _ hs).mono ?_; rintro e w' ⟨rfl, hb⟩))
    go_ret
    first
      | exact ⟨ret_bool (by simp [isPalW, hw]), by assumption⟩
      | exact ⟨ret_bool (by simp [isPalW, hw]), Below.refl _ _⟩
theorem isPalindrome_s (s : ByteArray) (w : World) (hs : s.size ≤ 1073741824) :
    Calls Try.prog 17 #[.string s] w fun e w' => e = .returned (.bool (isPalW s)) ∧ Below w.heap.size w w' := by
  cases hw : wordL s.data.toList
  all_goals
    go_enter Try.func17, Try.ntmps17
    go_wp2_with (first | (go_at_call 27; refine (wordOk_c _ _ (by unfold maxLen; omega)).mono ?_; rintro e w' ⟨rfl, rfl⟩) | (go_at_call 28; refine (l08Is_c _ _ hs).mono ?_; rintro e w' ⟨rfl, hb⟩))
    go_ret
    first
      | exact ⟨ret_bool (by simp [isPalW, hw]), by assumption⟩
      | exact ⟨ret_bool (by simp [isPalW, hw]), Below.refl _ _⟩

theorem lawIsPalindrome_w (s : ByteArray) (w : World) (w0 : s.size ≤ maxLen) :
    Calls Try.prog 7 #[.string s] w fun e w' => e = .returned (.bool true) ∧ Below w.heap.size w w' := by
  unfold maxLen at w0
  by_cases hs : 1048576 < s.size
  · go_enter Try.func7, Try.ntmps7
    go_wp2
    go_ret
    exact ⟨rfl, Below.refl _ _⟩
  · go_enter Try.func7, Try.ntmps7
    go_wp2_with (first | (go_at_call 17; refine (isPalindrome_s _ _ (by omega)).mono ?_; rintro e w1 ⟨rfl, hb1⟩) | (go_at_call 18; refine (isPalindrome_i _ _ (by omega)).mono ?_; rintro e w2 ⟨rfl, hb2⟩))
    go_ret
    exact ⟨rfl, hb1.trans (hb2.mono hb1.size)⟩
end Go.Proofs.Ytppbjblnbfphnaa
