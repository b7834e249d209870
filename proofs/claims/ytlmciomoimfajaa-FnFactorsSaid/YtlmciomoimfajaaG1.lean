/- Contracts of divisor and l09Gcd: the greatest common divisor. Conditions: numbers that are not negative and small. -/
import Derived.Test.YtlmciomoimfajaaB0
import Derived.Deep.QuietTactic
import Derived.BigQuiet
namespace Go.Proofs.Ytlmciomoimfajaa
open Go.RowKit
set_option linter.unusedVariables false

theorem gcd_step (x y : Nat) : Nat.gcd x y = Nat.gcd y (x % y) := by rw [Nat.gcd_comm x y, Nat.gcd_rec y x, Nat.gcd_comm]
theorem modcast (x y : Nat) : ((x : Int)).tmod (y : Int) = ((x % y : Nat) : Int) := by rw [Int.tmod_eq_emod_of_nonneg (by omega)]; exact (Int.natCast_emod _ _).symm
theorem modcast' (x y : Nat) : ((x : Int)) % (y : Int) = ((x % y : Nat) : Int) := (Int.natCast_emod _ _).symm

set_option maxHeartbeats 400000 in
theorem divisor_c (a b : Nat) (w : World) (ha : a ≤ 1073741824) (hb : b ≤ 1073741824) :
    Calls Try.prog 95 #[.int .i64 (a : Int), .int .i64 (b : Int)] w fun e w' => e = .returned (.int .i64 ((Nat.gcd a b : Nat) : Int)) ∧ ∃ d, w' = w.drewN d := by
  go_enter Try.func95, Try.ntmps95
  go_wp2
  go_loopw [0, 1] (fun u v wr => ∃ x y d : Nat, u = .int .i64 x ∧ v = .int .i64 y ∧ x ≤ 1073741824 ∧ y ≤ 1073741824 ∧ Hid (Nat.gcd x y = Nat.gcd a b) ∧ wr = w.drewN d) (fun _ v _ => (intOf v).toNat)
  case atStart => exact ⟨a, b, 0, rfl, rfl, ha, hb, rfl, rfl⟩
  case round =>
    obtain ⟨x, y, d, rfl, rfl, hx, hy, hg, rfl⟩ := hrel
    by_cases h0 : y = 0
    · subst h0
      have hfin : Hid ((x : Int) = ((Nat.gcd a b : Nat) : Int)) := by rw [← hg.out, Nat.gcd_zero_right]; rfl
      go_wp2
      go_ret
      exact ⟨ret_int hfin.out, _, rfl⟩
    · have hz : ((y : Int) == 0) = false := by simp; omega
      have hz' : ((y : Int) != 0) = true := by simp; omega
      obtain ⟨r, hr⟩ : ∃ r : Nat, r = x % y := ⟨_, rfl⟩
      have hrl : r < y := by rw [hr]; exact Nat.mod_lt _ (by omega)
      have e1 : (x : Int).tmod (y : Int) = (r : Int) := by rw [hr]; exact modcast x y
      have e2 : (x : Int) % (y : Int) = (r : Int) := by rw [hr]; exact modcast' x y
      have HR := Lib.hid hr
      clear hr
      go_wp2
      go_quiet (fail)
      go_wp2
      go_roundw
      case rel => exact ⟨y, r, _, rfl, rfl, hy, by omega, by rw [← hg.out, gcd_step x y, ← HR.out]; rfl, by first | rfl | rw [World.drewN_drewN]⟩
      case measure => simp [intOf] <;> omega

end Go.Proofs.Ytlmciomoimfajaa
