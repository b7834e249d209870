/- Contracts of TurnWord and BeforeWord in the program, of flip of the laws. Conditions: words. -/
import Derived.Test.YtlmciomoimfajaaB2
import Derived.Test.YtlmciomoimfajaaC2
namespace Go.Proofs.Ytlmciomoimfajaa
open Go.RowKit
set_option linter.unusedVariables false

set_option maxRecDepth 20000 in
set_option maxHeartbeats 1000000 in
theorem flip_c (s : ByteArray) (w : World) (hs : s.size ≤ 1073741824) :
    Calls Try.prog 15 #[.string s] w fun e w' => e = .returned (.string (rev s)) ∧ Below w.heap.size w w' := by
  obtain ⟨i0, hi, hz0, hz1, hz2⟩ := info_parts info_u8
  have hst0 : Hid (OwnB (w.alloc (.cells #[] 5)) w.heap.size (.slice (some ⟨w.heap.size, 0, none⟩) 0 0) (backRow s.data.toList 0)) := by rw [backRow_zero]; exact ownB_empty w (Nat.le_refl _)
  go_enter Try.func15, Try.ntmps15
  go_wp2
  go_loopw [3, 4] (fun v i wr => ∃ k : Nat, k ≤ s.size ∧ i = .int .i64 ((s.size : Int) - 1 - k) ∧ Hid (OwnB wr w.heap.size v (backRow s.data.toList k)) ∧ Below w.heap.size w wr) (fun _ i _ => (intOf i + 1).toNat)
  case atStart => exact ⟨0, Nat.zero_le _, by simp, hst0, (Below.refl _ _).alloc (Nat.le_refl _) _⟩
  case round =>
    obtain ⟨k, hk, rfl, hown, hb⟩ := hrel
    by_cases hlt : k < s.size
    · obtain ⟨j, hj⟩ : ∃ j : Nat, j + 1 + k = s.size := ⟨s.size - 1 - k, by omega⟩
      have hjs : j < s.size := by omega
      have hji : ((s.size : Int) - 1 - (k : Int)) = (j : Int) := by omega
      rw [hji]
      have hbs := Lib.hid (backRow_step s k j hj)
      go_wp2_with (at_builtin; refine appB rfl _ _ rfl w.heap.size _ (backRow s.data.toList k) rfl (by exact hown.out) s[j] _ rfl rfl (by rw [backRow_len _ _ (by rw [← size_len]; exact hk)]; omega) (by exact hb.size) ?_; intro v' w' hown' hg')
      go_roundw
      case rel => exact ⟨k + 1, by omega, by go_num, by rw [hbs.out]; exact hown', below_app hb hown.out hg' hb.size⟩
      case measure => simp [intOf] <;> omega
    · have hks : k = s.size := by omega
      subst hks
      have ho := hown.out
      rw [backRow_full] at ho
      have hcv := conv_own ho
      clear ho
      go_wp2
      go_ret
      exact ⟨rfl, hb⟩
theorem wordOk_i (s : ByteArray) (w : World) (hs : s.size ≤ 1073741824) :
    Calls Try.prog 16 #[.string s] w fun e w' => e = .returned (.bool (wordL s.data.toList)) ∧ w = w' := by
  have h1 := fun W => Lib.hid (isWord_c s W (by unfold maxLen; omega))
  go_enter Try.func16, Try.ntmps16
  go_wp2_with fail
  refine (h1 _).out.mono ?_
  rintro e w' ⟨rfl, rfl⟩
  go_wp2_with fail
  go_ret
  exact ⟨rfl, rfl⟩
theorem turnWord_i (s : ByteArray) (w : World) (hw : wordL s.data.toList = true) :
    Calls Try.prog 12 #[.string s] w fun e w' => e = .returned (.string (rev s)) ∧ Below w.heap.size w w' := by
  have hs := wordL_size hw
  have h1 := fun W => Lib.hid (isWord_c s W (by unfold maxLen; omega))
  have h2 := fun W => Lib.hid (turned_c s W (by omega))
  rw [hw] at h1
  go_enter Try.func12, Try.ntmps12
  go_wp2_with fail
  refine (h1 _).out.mono ?_
  rintro e w' ⟨rfl, rfl⟩
  go_wp2_with fail
  refine (h2 _).out.mono ?_
  rintro e w1 ⟨rfl, hb⟩
  go_wp2_with fail
  go_ret
  exact ⟨rfl, hb⟩
theorem beforeWord_i (s t : ByteArray) (w : World) (hs : wordL s.data.toList = true) (ht : wordL t.data.toList = true) :
    Calls Try.prog 26 #[.string s, .string t] w fun e w' => e = .returned (.bool (ltB s t)) ∧ w = w' := by
  have h1 := fun W => Lib.hid (isWord_c s W (by have := wordL_size hs; unfold maxLen; omega))
  have h2 := fun W => Lib.hid (isWord_c t W (by have := wordL_size ht; unfold maxLen; omega))
  rw [hs] at h1
  rw [ht] at h2
  go_enter Try.func26, Try.ntmps26
  go_wp2_with fail
  refine (h1 _).out.mono ?_
  rintro e w' ⟨rfl, rfl⟩
  go_wp2_with fail
  refine (h2 _).out.mono ?_
  rintro e w' ⟨rfl, rfl⟩
  go_wp2_with fail
  go_ret
  exact ⟨rfl, rfl⟩
end Go.Proofs.Ytlmciomoimfajaa
