/- Contracts of IsSquareFree, IsCubeFree, IsOverlapFree in the program and in the reference, and the walks of their laws. Conditions: none beyond the laws' own test of the length. -/
import Derived.Test.YthbdonlhhpmolaaB6
namespace Go.Proofs.Ythbdonlhhpmolaa
open Go.RowKit
set_option linter.unusedVariables false

theorem isSquareFree_i (s : ByteArray) (w : World) (hs : s.size ≤ 1073741824) :
    Calls Try.prog 67 #[.string s] w fun e w' => e = .returned (.bool (wordL s.data.toList && !cB (RepP s.data.toList 2 0))) ∧ Below w.heap.size w w' := by
  cases hw : wordL s.data.toList
  all_goals
    have HW := Lib.hid hw
    go_enter Try.func67, Try.ntmps67
    go_wp2_with (first | (go_at_call 63; refine (isWord_c _ _ (by unfold maxLen; omega)).mono ?_; rintro e w' ⟨rfl, rfl⟩) | (go_at_call 94; refine (hasPower_c s 2 0 _ HW.out (by omega) (by omega) (by omega)).mono ?_; rintro e w' ⟨rfl, hb⟩))
    go_ret
    first
      | exact ⟨ret_bool (by simp), by assumption⟩
      | exact ⟨ret_bool (by simp), Below.refl _ _⟩
theorem isSquareFree_s (s : ByteArray) (w : World) (hs : s.size ≤ 1073741824) :
    Calls Try.prog 65 #[.string s] w fun e w' => e = .returned (.bool (wordL s.data.toList && !cB (RepP s.data.toList 2 0))) ∧ Below w.heap.size w w' := by
  cases hw : wordL s.data.toList
  all_goals
    have HW := Lib.hid hw
    go_enter Try.func65, Try.ntmps65
    go_wp2_with (first | (go_at_call 62; refine (wordOk_c _ _ (by unfold maxLen; omega)).mono ?_; rintro e w' ⟨rfl, rfl⟩) | (go_at_call 93; refine (l07Repeats_c s 1 0 _ (wordL_size HW.out) (by omega) (by omega) (by omega)).mono ?_; rintro e w' ⟨rfl, d, rfl⟩))
    go_ret
    first
      | exact ⟨ret_bool (by simp), Below.refl _ _⟩
      | exact ⟨ret_bool (by simp), below_drewN (Below.refl _ _) _⟩

end Go.Proofs.Ythbdonlhhpmolaa
