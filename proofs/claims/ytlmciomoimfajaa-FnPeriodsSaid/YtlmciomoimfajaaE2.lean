/- Contracts of AreConjugate in the program and in the reference, and the walk of its law. Conditions: none beyond the law's own test of the length; the library's variable MaxLen holds a number. -/
import Derived.Test.YtlmciomoimfajaaE1
import Derived.Test.YtlmciomoimfajaaB1
import Derived.Test.YtlmciomoimfajaaShelf
namespace Go.Proofs.Ytlmciomoimfajaa
open Go.RowKit
set_option linter.unusedVariables false

def conjB (v x : ByteArray) : Bool := wordL v.data.toList && wordL x.data.toList && decide (v.size = x.size) && Lib.contains (v ++ v).data.toList x.data.toList
theorem app_size (a b : ByteArray) : (a ++ b).size = a.size + b.size := ByteArray.size_append

set_option maxHeartbeats 1000000 in
theorem areConjugate_i (v x : ByteArray) (mx : Int) (w : World) (hm : w.cell? ⟨0, 0, none⟩ = some (.int .i64 mx)) (hv : v.size ≤ 1048576) (hx : x.size ≤ 1048576) :
    Calls Try.prog 19 #[.string v, .string x] w fun e w' => e = .returned (.bool (conjB v x)) ∧ w = w' := by
  have h1 := fun W => Lib.hid (isWord_c v W (by unfold maxLen; omega))
  have h2 := fun W => Lib.hid (isWord_c x W (by unfold maxLen; omega))
  have hs : (v ++ v).size = v.size + v.size := app_size v v
  have hs' : Hid ((v ++ v).size ≤ 2097152) := by unfold Hid; omega
  have hc := Lib.hid (Try.strings_Contains (v ++ v) x mx w (by have := hs'.out; omega) hm)
  have hcb : conjB v x = (wordL v.data.toList && wordL x.data.toList && decide (v.size = x.size) && Lib.contains (v ++ v).data.toList x.data.toList) := rfl
  rw [hcb]
  clear hcb
  by_cases hz : v.size = x.size
  · have z1 : ((v.size : Int) == (x.size : Int)) = true := by simp; omega
    have z2 := Lib.hid (decide_eq_true hz)
    clear hz
    cases ha : wordL v.data.toList
    · rw [ha] at h1
      have h3 := Lib.hid (show (false && wordL x.data.toList && decide (v.size = x.size) && Lib.contains (v ++ v).data.toList x.data.toList) = false by simp)
      go_enter Try.func19, Try.ntmps19
      go_wp2_with fail
      refine (h1 _).out.mono ?_
      rintro e w' ⟨rfl, rfl⟩
      go_wp2_with fail
      go_ret
      exact ⟨ret_bool h3.out.symm, rfl⟩
    · rw [ha] at h1
      cases hb : wordL x.data.toList
      · rw [hb] at h2
        have h3 := Lib.hid (show (true && false && decide (v.size = x.size) && Lib.contains (v ++ v).data.toList x.data.toList) = false by simp)
        go_enter Try.func19, Try.ntmps19
        go_wp2_with fail
        refine (h1 _).out.mono ?_
        rintro e w' ⟨rfl, rfl⟩
        go_wp2_with fail
        refine (h2 _).out.mono ?_
        rintro e w' ⟨rfl, rfl⟩
        go_wp2_with fail
        go_ret
        exact ⟨ret_bool h3.out.symm, rfl⟩
      · rw [hb] at h2
        have h3 := Lib.hid (show (true && true && decide (v.size = x.size) && Lib.contains (v ++ v).data.toList x.data.toList) = Lib.contains (v ++ v).data.toList x.data.toList by rw [z2.out]; simp)
        go_enter Try.func19, Try.ntmps19
        go_wp2_with fail
        refine (h1 _).out.mono ?_
        rintro e w' ⟨rfl, rfl⟩
        go_wp2_with fail
        refine (h2 _).out.mono ?_
        rintro e w' ⟨rfl, rfl⟩
        go_wp2_with fail
        refine hc.out.mono ?_
        rintro e w' ⟨rfl, rfl⟩
        go_wp2_with fail
        all_goals (go_ret; exact ⟨ret_bool (by first | exact h3.out.symm | (rw [h3.out]; assumption) | (rw [h3.out]; symm; assumption)), rfl⟩)
  · have z1 : ((v.size : Int) == (x.size : Int)) = false := by simp; omega
    have h3 := Lib.hid (show (wordL v.data.toList && wordL x.data.toList && decide (v.size = x.size) && Lib.contains (v ++ v).data.toList x.data.toList) = false by rw [decide_eq_false hz]; simp)
    clear hz
    go_enter Try.func19, Try.ntmps19
    go_wp2_with (go_at_call 85; refine (isWord_c _ _ (by unfold maxLen; omega)).mono ?_; rintro e w' ⟨rfl, rfl⟩)
    all_goals (go_ret; exact ⟨ret_bool h3.out.symm, rfl⟩)

end Go.Proofs.Ytlmciomoimfajaa
