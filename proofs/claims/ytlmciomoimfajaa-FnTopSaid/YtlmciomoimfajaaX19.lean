/- Contract of FactorsOf in the program (a light text). -/
import Derived.Test.YtlmciomoimfajaaX17
namespace Go.Proofs.Ytlmciomoimfajaa
open Go.RowKit
set_option linter.unusedVariables false

theorem isLength_c (s : ByteArray) (n : Nat) (w : World) (hw : wordL s.data.toList = true) (h1 : 1 ≤ n) (h2 : n ≤ 400) :
    Calls Try.prog 104 #[.string s, .int .i64 (n : Int)] w fun e w' => e = .returned (.bool true) ∧ w = w' := by
  have hs4 := wordL_size hw
  have c1 := fun W => Lib.hid (isWord_c s W (by unfold maxLen; omega))
  have c2 := fun W => Lib.hid (within_c (n : Int) 1 400 W)
  rw [hw] at c1
  rw [inB_iff.2 (show (1 : Int) ≤ (n : Int) ∧ (n : Int) ≤ 400 by omega)] at c2
  clear hw
  go_enter Try.func104, Try.ntmps104
  go_wp2_with fail
  refine (c1 _).out.mono ?_
  rintro e w' ⟨rfl, rfl⟩
  go_wp2_with fail
  refine (c2 _).out.mono ?_
  rintro e w' ⟨rfl, rfl⟩
  go_wp2_with fail
  go_ret
  exact ⟨rfl, rfl⟩
theorem FactorsOf_i (s : ByteArray) (n : Nat) (w : World) (hw : wordL s.data.toList = true) (h1 : 1 ≤ n) (h2 : n ≤ 400) :
    Calls Try.prog 48 #[.string s, .int .i64 (n : Int)] w (RetS (facW s n) w) := by
  have hs4 := wordL_size hw
  have c1 := fun W => Lib.hid (isLength_c s n W hw h1 h2)
  have c2 := fun W => Lib.hid (factorsOf_c s n W (by omega) (by omega))
  clear hw
  go_enter Try.func48, Try.ntmps48
  go_wp2_with fail
  refine (c1 _).out.mono ?_
  rintro e w' ⟨rfl, rfl⟩
  go_wp2_with fail
  refine (c2 _).out.mono ?_
  rintro e w' ⟨v, rfl, hown, hb⟩
  have HO := Lib.hid hown
  clear hown
  go_wp2_with fail
  go_ret
  exact ⟨v, rfl, HO.out, hb⟩
end Go.Proofs.Ytlmciomoimfajaa
