/- Contracts of DefectOf and IsRich in the program and in the reference, and the walks of their laws. Conditions: strings of at most 2^30 bytes. -/
import Derived.Test.YtlmciomoimfajaaT4
namespace Go.Proofs.Ytlmciomoimfajaa
open Go.RowKit
set_option linter.unusedVariables false

theorem ownS_len {w : World} {B : Nat} {v : Value} {l : List ByteArray} (h : OwnS w B v l) : ∃ a c, v = .slice a l.length c := by
  rcases h.2 with ⟨hv, h0⟩ | ⟨g, cap, cur, hv, _⟩
  · exact ⟨none, 0, by rw [hv, h0]⟩
  · exact ⟨_, _, hv⟩
def defW (s : ByteArray) : Int := if shortB s = true then (s.size : Int) + 1 - ((palW s).length : Int) else -1

set_option maxHeartbeats 1000000 in
theorem defectOf_i (s : ByteArray) (w : World) (hs : s.size ≤ 1073741000) :
    Calls Try.prog 60 #[.string s] w fun e w' => e = .returned (.int .i64 (defW s)) ∧ Below w.heap.size w w' := by
  have h1 := fun W => Lib.hid (isShortB_c s W (by omega))
  have h2 := fun W => Lib.hid (palindromesIn_i s W hs)
  have hl := palW_len s
  cases hok : shortB s
  · have hr : Hid (defW s = -1) := by simp [defW, hok, Hid]
    rw [hok] at h1
    go_enter Try.func60, Try.ntmps60
    go_wp2_with fail
    refine (h1 _).out.mono ?_
    rintro e w' ⟨rfl, rfl⟩
    go_wp2_with fail
    go_ret
    exact ⟨ret_int hr.out.symm, Below.refl _ _⟩
  · have hsz60 := (shortB_iff.1 hok).2
    have hr : Hid (defW s = (s.size : Int) + 1 - ((palW s).length : Int)) := by simp [defW, hok, Hid]
    rw [hok] at h1
    obtain ⟨N, hN⟩ : ∃ N, N = (palW s).length := ⟨_, rfl⟩
    rw [← hN] at hl hr
    have HN := Lib.hid hN
    clear hok hN
    go_enter Try.func60, Try.ntmps60
    go_wp2_with fail
    refine (h1 _).out.mono ?_
    rintro e w' ⟨rfl, rfl⟩
    go_wp2_with fail
    refine (h2 _).out.mono ?_
    rintro e w1 ⟨v, rfl, ho, hb⟩
    obtain ⟨a, c, rfl⟩ := ownS_len ho
    rw [← HN.out]
    clear ho
    go_wp2_with fail
    go_ret
    exact ⟨ret_int hr.out.symm, hb⟩

theorem isRich_i (s : ByteArray) (w : World) (hs : s.size ≤ 1073741000) :
    Calls Try.prog 62 #[.string s] w fun e w' => e = .returned (.bool (defW s == 0)) ∧ Below w.heap.size w w' := by
  have h2 := fun W => Lib.hid (defectOf_i s W hs)
  go_enter Try.func62, Try.ntmps62
  go_wp2_with fail
  refine (h2 _).out.mono ?_
  rintro e w1 ⟨rfl, hb⟩
  go_wp2_with fail
  go_ret
  exact ⟨rfl, hb⟩

end Go.Proofs.Ytlmciomoimfajaa
