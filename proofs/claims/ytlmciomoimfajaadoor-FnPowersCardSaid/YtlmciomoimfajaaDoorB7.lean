/- Contracts of IsSquareFree, IsCubeFree, IsOverlapFree in the program and in the reference, and the walks of their laws. Conditions: none beyond the laws' own test of the length. -/
import Derived.Test.YtlmciomoimfajaaDoorB6
namespace Go.Proofs.YtlmciomoimfajaaDoor
open Go.RowKit
set_option linter.unusedVariables false

theorem isSquareFree_i (s : ByteArray) (w : World) (hs : s.size ≤ 1073741824) :
    Calls Tryd.prog 6 #[.string s] w fun e w' => e = .returned (.bool (wordL s.data.toList && !cB (RepP s.data.toList 2 0))) ∧ Below w.heap.size w w' := by
  cases hw : wordL s.data.toList
  all_goals
    have HW := Lib.hid hw
    go_enter Tryd.func6, Tryd.ntmps6
    go_wp2_with (first | (go_at_call 26; refine (isWord_c _ _ (by unfold maxLen; omega)).mono ?_; rintro e w' ⟨rfl, rfl⟩) | (go_at_call 27; refine (hasPower_c s 2 0 _ HW.out (by omega) (by omega) (by omega)).mono ?_; rintro e w' ⟨rfl, hb⟩))
    go_ret
    first
      | exact ⟨ret_bool (by simp), by assumption⟩
      | exact ⟨ret_bool (by simp), Below.refl _ _⟩

theorem isCubeFree_i (s : ByteArray) (w : World) (hs : s.size ≤ 1073741824) :
    Calls Tryd.prog 11 #[.string s] w fun e w' => e = .returned (.bool (wordL s.data.toList && !cB (RepP s.data.toList 3 0))) ∧ Below w.heap.size w w' := by
  cases hw : wordL s.data.toList
  all_goals
    have HW := Lib.hid hw
    go_enter Tryd.func11, Tryd.ntmps11
    go_wp2_with (first | (go_at_call 26; refine (isWord_c _ _ (by unfold maxLen; omega)).mono ?_; rintro e w' ⟨rfl, rfl⟩) | (go_at_call 27; refine (hasPower_c s 3 0 _ HW.out (by omega) (by omega) (by omega)).mono ?_; rintro e w' ⟨rfl, hb⟩))
    go_ret
    first
      | exact ⟨ret_bool (by simp), by assumption⟩
      | exact ⟨ret_bool (by simp), Below.refl _ _⟩

theorem isOverlapFree_i (s : ByteArray) (w : World) (hs : s.size ≤ 1073741824) :
    Calls Tryd.prog 10 #[.string s] w fun e w' => e = .returned (.bool (wordL s.data.toList && !cB (RepP s.data.toList 2 1))) ∧ Below w.heap.size w w' := by
  cases hw : wordL s.data.toList
  all_goals
    have HW := Lib.hid hw
    go_enter Tryd.func10, Tryd.ntmps10
    go_wp2_with (first | (go_at_call 26; refine (isWord_c _ _ (by unfold maxLen; omega)).mono ?_; rintro e w' ⟨rfl, rfl⟩) | (go_at_call 27; refine (hasPower_c s 2 1 _ HW.out (by omega) (by omega) (by omega)).mono ?_; rintro e w' ⟨rfl, hb⟩))
    go_ret
    first
      | exact ⟨ret_bool (by simp), by assumption⟩
      | exact ⟨ret_bool (by simp), Below.refl _ _⟩
end Go.Proofs.YtlmciomoimfajaaDoor
