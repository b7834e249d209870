/- Contracts of IsSquareFree, IsCubeFree, IsOverlapFree in the program and in the reference, and the walks of their laws. Conditions: none beyond the laws' own test of the length. -/
import Derived.Test.YtifcbgbnaokcjaaB6
namespace Go.Proofs.Ytifcbgbnaokcjaa
open Go.RowKit
set_option linter.unusedVariables false


theorem isSquareFree_i (s : ByteArray) (w : World) (hs : s.size ≤ 1073741824) :
    Calls Try.prog 30 #[.string s] w fun e w' => e = .returned (.bool (wordL s.data.toList && !cB (RepP s.data.toList 2 0))) ∧ Below w.heap.size w w' := by
  cases hw : wordL s.data.toList
  all_goals
    have HW := Lib.hid hw
    go_enter Try.func30, Try.ntmps30
    go_wp2_with (first | (go_at_call 40; refine (isWord_c _ _ (by unfold maxLen; omega)).mono ?_; rintro e w' ⟨rfl, rfl⟩) | (go_at_call 44; refine (hasPower_c s 2 0 _ HW.out (by omega) (by omega) (by omega)).mono ?_; rintro e w' ⟨rfl, hb⟩))
    go_ret
    first
      | exact ⟨ret_bool (by simp), by assumption⟩
      | exact ⟨ret_bool (by simp), Below.refl _ _⟩

theorem isSquareFree_s (s : ByteArray) (w : World) (hs : s.size ≤ 1073741824) :
    Calls Try.prog 29 #[.string s] w fun e w' => e = .returned (.bool (wordL s.data.toList && !cB (RepP s.data.toList 2 0))) ∧ Below w.heap.size w w' := by
  cases hw : wordL s.data.toList
  all_goals
    have HW := Lib.hid hw
    go_enter Try.func29, Try.ntmps29
    go_wp2_with (first | (go_at_call 39; refine (wordOk_c _ _ (by unfold maxLen; omega)).mono ?_; rintro e w' ⟨rfl, rfl⟩) | (go_at_call 43; refine (l07Repeats_c s 1 0 _ (wordL_size HW.out) (by omega) (by omega) (by omega)).mono ?_; rintro e w' ⟨rfl, d, rfl⟩))
    go_ret
    first
      | exact ⟨ret_bool (by simp), Below.refl _ _⟩
      | exact ⟨ret_bool (by simp), below_drewN (Below.refl _ _) _⟩

theorem lawIsSquareFree_w (s : ByteArray) (w : World) (w0 : s.size ≤ maxLen) :
    Calls Try.prog 10 #[.string s] w fun e w' => e = .returned (.bool true) ∧ Below w.heap.size w w' := by
  unfold maxLen at w0
  by_cases hs : 1048576 < s.size
  · go_enter Try.func10, Try.ntmps10
    go_wp2
    go_ret
    exact ⟨rfl, Below.refl _ _⟩
  · go_enter Try.func10, Try.ntmps10
    go_wp2_with (first | (go_at_call 29; refine (isSquareFree_s _ _ (by omega)).mono ?_; rintro e w1 ⟨rfl, hb1⟩) | (go_at_call 30; refine (isSquareFree_i _ _ (by omega)).mono ?_; rintro e w2 ⟨rfl, hb2⟩))
    go_ret
    exact ⟨rfl, hb1.trans (hb2.mono hb1.size)⟩


theorem isCubeFree_i (s : ByteArray) (w : World) (hs : s.size ≤ 1073741824) :
    Calls Try.prog 26 #[.string s] w fun e w' => e = .returned (.bool (wordL s.data.toList && !cB (RepP s.data.toList 3 0))) ∧ Below w.heap.size w w' := by
  cases hw : wordL s.data.toList
  all_goals
    have HW := Lib.hid hw
    go_enter Try.func26, Try.ntmps26
    go_wp2_with (first | (go_at_call 40; refine (isWord_c _ _ (by unfold maxLen; omega)).mono ?_; rintro e w' ⟨rfl, rfl⟩) | (go_at_call 44; refine (hasPower_c s 3 0 _ HW.out (by omega) (by omega) (by omega)).mono ?_; rintro e w' ⟨rfl, hb⟩))
    go_ret
    first
      | exact ⟨ret_bool (by simp), by assumption⟩
      | exact ⟨ret_bool (by simp), Below.refl _ _⟩

theorem isCubeFree_s (s : ByteArray) (w : World) (hs : s.size ≤ 1073741824) :
    Calls Try.prog 25 #[.string s] w fun e w' => e = .returned (.bool (wordL s.data.toList && !cB (RepP s.data.toList 3 0))) ∧ Below w.heap.size w w' := by
  cases hw : wordL s.data.toList
  all_goals
    have HW := Lib.hid hw
    go_enter Try.func25, Try.ntmps25
    go_wp2_with (first | (go_at_call 39; refine (wordOk_c _ _ (by unfold maxLen; omega)).mono ?_; rintro e w' ⟨rfl, rfl⟩) | (go_at_call 43; refine (l07Repeats_c s 2 0 _ (wordL_size HW.out) (by omega) (by omega) (by omega)).mono ?_; rintro e w' ⟨rfl, d, rfl⟩))
    go_ret
    first
      | exact ⟨ret_bool (by simp), Below.refl _ _⟩
      | exact ⟨ret_bool (by simp), below_drewN (Below.refl _ _) _⟩

theorem lawIsCubeFree_w (s : ByteArray) (w : World) (w0 : s.size ≤ maxLen) :
    Calls Try.prog 8 #[.string s] w fun e w' => e = .returned (.bool true) ∧ Below w.heap.size w w' := by
  unfold maxLen at w0
  by_cases hs : 1048576 < s.size
  · go_enter Try.func8, Try.ntmps8
    go_wp2
    go_ret
    exact ⟨rfl, Below.refl _ _⟩
  · go_enter Try.func8, Try.ntmps8
    go_wp2_with (first | (go_at_call 25; refine (isCubeFree_s _ _ (by omega)).mono ?_; rintro e w1 ⟨rfl, hb1⟩) | (go_at_call 26; refine (isCubeFree_i _ _ (by omega)).mono ?_; rintro e w2 ⟨rfl, hb2⟩))
    go_ret
    exact ⟨rfl, hb1.trans (hb2.mono hb1.size)⟩


theorem isOverlapFree_i (s : ByteArray) (w : World) (hs : s.size ≤ 1073741824) :
    Calls Try.prog 28 #[.string s] w fun e w' => e = .returned (.bool (wordL s.data.toList && !cB (RepP s.data.toList 2 1))) ∧ Below w.heap.size w w' := by
  cases hw : wordL s.data.toList
  all_goals
    have HW := Lib.hid hw
    go_enter Try.func28, Try.ntmps28
    go_wp2_with (first | (go_at_call 40; refine (isWord_c _ _ (by unfold maxLen; omega)).mono ?_; rintro e w' ⟨rfl, rfl⟩) | (go_at_call 44; refine (hasPower_c s 2 1 _ HW.out (by omega) (by omega) (by omega)).mono ?_; rintro e w' ⟨rfl, hb⟩))
    go_ret
    first
      | exact ⟨ret_bool (by simp), by assumption⟩
      | exact ⟨ret_bool (by simp), Below.refl _ _⟩

theorem isOverlapFree_s (s : ByteArray) (w : World) (hs : s.size ≤ 1073741824) :
    Calls Try.prog 27 #[.string s] w fun e w' => e = .returned (.bool (wordL s.data.toList && !cB (RepP s.data.toList 2 1))) ∧ Below w.heap.size w w' := by
  cases hw : wordL s.data.toList
  all_goals
    have HW := Lib.hid hw
    go_enter Try.func27, Try.ntmps27
    go_wp2_with (first | (go_at_call 39; refine (wordOk_c _ _ (by unfold maxLen; omega)).mono ?_; rintro e w' ⟨rfl, rfl⟩) | (go_at_call 43; refine (l07Repeats_c s 1 1 _ (wordL_size HW.out) (by omega) (by omega) (by omega)).mono ?_; rintro e w' ⟨rfl, d, rfl⟩))
    go_ret
    first
      | exact ⟨ret_bool (by simp), Below.refl _ _⟩
      | exact ⟨ret_bool (by simp), below_drewN (Below.refl _ _) _⟩

theorem lawIsOverlapFree_w (s : ByteArray) (w : World) (w0 : s.size ≤ maxLen) :
    Calls Try.prog 9 #[.string s] w fun e w' => e = .returned (.bool true) ∧ Below w.heap.size w w' := by
  unfold maxLen at w0
  by_cases hs : 1048576 < s.size
  · go_enter Try.func9, Try.ntmps9
    go_wp2
    go_ret
    exact ⟨rfl, Below.refl _ _⟩
  · go_enter Try.func9, Try.ntmps9
    go_wp2_with (first | (go_at_call 27; refine (isOverlapFree_s _ _ (by omega)).mono ?_; rintro e w1 ⟨rfl, hb1⟩) | (go_at_call 28; refine (isOverlapFree_i _ _ (by omega)).mono ?_; rintro e w2 ⟨rfl, hb2⟩))
    go_ret
    exact ⟨rfl, hb1.trans (hb2.mono hb1.size)⟩
end Go.Proofs.Ytifcbgbnaokcjaa
