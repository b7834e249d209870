/- Contracts of DefectOf and IsRich in the program and in the reference, and the walks of their laws. Conditions: strings of at most 2^30 bytes. -/
import Derived.Test.YticbdpkmpnechaaT4
namespace Go.Proofs.Yticbdpkmpnechaa
open Go.RowKit
set_option linter.unusedVariables false

theorem ownS_len {w : World} {B : Nat} {v : Value} {l : List ByteArray} (h : OwnS w B v l) : ∃ a c, v = .slice a l.length c := by
  rcases h.2 with ⟨hv, h0⟩ | ⟨g, cap, cur, hv, _⟩
  · exact ⟨none, 0, by rw [hv, h0]⟩
  · exact ⟨_, _, hv⟩
def defW (s : ByteArray) : Int := if shortB s = true then (s.size : Int) + 1 - ((palW s).length : Int) else -1

set_option maxHeartbeats 1000000 in
theorem defectOf_i (s : ByteArray) (w : World) (hs : s.size ≤ 1073741000) :
    Calls Try.prog 27 #[.string s] w fun e w' => e = .returned (.int .i64 (defW s)) ∧ Below w.heap.size w w' := by
  have h1 := fun W => Lib.hid (isShortB_c s W (by omega))
  have h2 := fun W => Lib.hid (palindromesIn_i s W hs)
  have hl := palW_len s
  cases hok : shortB s
  · have hr : Hid (defW s = -1) := by simp [defW, hok, Hid]
    rw [hok] at h1
    go_enter Try.func27, Try.ntmps27
    go_wp2_with fail
    refine (h1 _).out.mono ?_
    rintro e w' ⟨rfl, rfl⟩
    go_wp2_with fail
    go_ret
    exact ⟨ret_int hr.out.symm, Below.refl _ _⟩
  · have hsz60 := (shortB_iff.1 hok).2
    have hr : Hid (defW s = (s.size : Int) + 1 - ((palW s).length : Int)) := by simp [defW, hok, Hid]
    rw [hok] at h1
    obtain ⟨N, hN⟩ : ∃ N, N = (palW s).length := ⟨_, rfl⟩
    rw [← hN] at hl hr
    have HN := Lib.hid hN
    clear hok hN
    go_enter Try.func27, Try.ntmps27
    go_wp2_with fail
    refine (h1 _).out.mono ?_
    rintro e w' ⟨rfl, rfl⟩
    go_wp2_with fail
    refine (h2 _).out.mono ?_
    rintro e w1 ⟨v, rfl, ho, hb⟩
    obtain ⟨a, c, rfl⟩ := ownS_len ho
    rw [← HN.out]
    clear ho
    go_wp2_with fail
    go_ret
    exact ⟨ret_int hr.out.symm, hb⟩

set_option maxHeartbeats 1000000 in
theorem defectOf_s (s : ByteArray) (w : World) (hs : s.size ≤ 1073741000) :
    Calls Try.prog 26 #[.string s] w fun e w' => e = .returned (.int .i64 (defW s)) ∧ Below w.heap.size w w' := by
  have h1 := fun W => Lib.hid (wordOk_c s W (by unfold maxLen; omega))
  have h2 := fun W => Lib.hid (palindromesIn_s s W hs)
  have hl := palW_len s
  cases hok : shortB s
  · have hr : Hid (defW s = -1) := by simp [defW, hok, Hid]
    cases hw : wordL s.data.toList
    · rw [hw] at h1
      clear hok
      go_enter Try.func26, Try.ntmps26
      go_wp2_with fail
      refine (h1 _).out.mono ?_
      rintro e w' ⟨rfl, rfl⟩
      go_wp2_with fail
      go_ret
      exact ⟨ret_int hr.out.symm, Below.refl _ _⟩
    · have h60 : decide ((60 : Int) < (s.size : Int)) = true := by
        unfold shortB at hok; rw [hw, Bool.true_and, decide_eq_false_iff_not] at hok; exact decide_eq_true (by omega)
      rw [hw] at h1
      clear hok
      go_enter Try.func26, Try.ntmps26
      go_wp2_with fail
      refine (h1 _).out.mono ?_
      rintro e w' ⟨rfl, rfl⟩
      go_wp2_with fail
      go_ret
      exact ⟨ret_int hr.out.symm, Below.refl _ _⟩
  · obtain ⟨hw, hsz60⟩ := shortB_iff.1 hok
    have hr : Hid (defW s = (s.size : Int) + 1 - ((palW s).length : Int)) := by simp [defW, hok, Hid]
    have h60 : decide ((60 : Int) < (s.size : Int)) = false := decide_eq_false (by omega)
    rw [hw] at h1
    obtain ⟨N, hN⟩ : ∃ N, N = (palW s).length := ⟨_, rfl⟩
    rw [← hN] at hl hr
    have HN := Lib.hid hN
    clear hok hN hw
    go_enter Try.func26, Try.ntmps26
    go_wp2_with fail
    refine (h1 _).out.mono ?_
    rintro e w' ⟨rfl, rfl⟩
    go_wp2_with fail
    refine (h2 _).out.mono ?_
    rintro e w1 ⟨v, rfl, ho, hb⟩
    obtain ⟨a, c, rfl⟩ := ownS_len ho
    rw [← HN.out]
    clear ho
    go_wp2_with fail
    go_ret
    exact ⟨ret_int hr.out.symm, hb⟩

theorem isRich_i (s : ByteArray) (w : World) (hs : s.size ≤ 1073741000) :
    Calls Try.prog 29 #[.string s] w fun e w' => e = .returned (.bool (defW s == 0)) ∧ Below w.heap.size w w' := by
  have h2 := fun W => Lib.hid (defectOf_i s W hs)
  go_enter Try.func29, Try.ntmps29
  go_wp2_with fail
  refine (h2 _).out.mono ?_
  rintro e w1 ⟨rfl, hb⟩
  go_wp2_with fail
  go_ret
  exact ⟨rfl, hb⟩
theorem isRich_s (s : ByteArray) (w : World) (hs : s.size ≤ 1073741000) :
    Calls Try.prog 28 #[.string s] w fun e w' => e = .returned (.bool (defW s == 0)) ∧ Below w.heap.size w w' := by
  have h2 := fun W => Lib.hid (defectOf_s s W hs)
  go_enter Try.func28, Try.ntmps28
  go_wp2_with fail
  refine (h2 _).out.mono ?_
  rintro e w1 ⟨rfl, hb⟩
  go_wp2_with fail
  go_ret
  exact ⟨rfl, hb⟩

theorem lawDefectOf_w (s : ByteArray) (w : World) (w0 : s.size ≤ maxLen) :
    Calls Try.prog 7 #[.string s] w fun e w' => e = .returned (.bool true) ∧ Below w.heap.size w w' := by
  unfold maxLen at w0
  by_cases hs : 1048576 < s.size
  · go_enter Try.func7, Try.ntmps7
    go_wp2
    go_ret
    exact ⟨rfl, Below.refl _ _⟩
  · have h1 := fun W => Lib.hid (defectOf_s s W (by omega))
    have h2 := fun W => Lib.hid (defectOf_i s W (by omega))
    go_enter Try.func7, Try.ntmps7
    go_wp2_with fail
    refine (h1 _).out.mono ?_
    rintro e w1 ⟨rfl, hb1⟩
    go_wp2_with fail
    refine (h2 _).out.mono ?_
    rintro e w2 ⟨rfl, hb2⟩
    go_wp2_with fail
    go_ret
    exact ⟨rfl, hb1.trans (hb2.mono hb1.size)⟩
theorem lawIsRich_w (s : ByteArray) (w : World) (w0 : s.size ≤ maxLen) :
    Calls Try.prog 8 #[.string s] w fun e w' => e = .returned (.bool true) ∧ Below w.heap.size w w' := by
  unfold maxLen at w0
  by_cases hs : 1048576 < s.size
  · go_enter Try.func8, Try.ntmps8
    go_wp2
    go_ret
    exact ⟨rfl, Below.refl _ _⟩
  · have h1 := fun W => Lib.hid (isRich_s s W (by omega))
    have h2 := fun W => Lib.hid (isRich_i s W (by omega))
    obtain ⟨b, hb⟩ : ∃ b, b = (defW s == 0) := ⟨_, rfl⟩
    rw [← hb] at h1 h2
    clear hb
    cases b
    all_goals
      go_enter Try.func8, Try.ntmps8
      go_wp2_with fail
      refine (h1 _).out.mono ?_
      rintro e w1 ⟨rfl, hb1⟩
      go_wp2_with fail
      refine (h2 _).out.mono ?_
      rintro e w2 ⟨rfl, hb2⟩
      go_wp2_with fail
      go_ret
      exact ⟨rfl, hb1.trans (hb2.mono hb1.size)⟩
end Go.Proofs.Yticbdpkmpnechaa
