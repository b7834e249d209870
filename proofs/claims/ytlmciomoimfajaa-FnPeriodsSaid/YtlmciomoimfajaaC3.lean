/- Contracts of divisor, l09Gcd (the greatest common divisor) and AllPeriodsFine. Conditions: numbers that are not negative; strings of at most 2^30 bytes. -/
import Derived.Test.YtlmciomoimfajaaB9
import Derived.Test.YtlmciomoimfajaaG1
namespace Go.Proofs.Ytlmciomoimfajaa
open Go.RowKit
set_option linter.unusedVariables false

/-! AllPeriodsFine -/
def perB (s : ByteArray) (n : Int) : Bool := inB n 1 s.size && powB s.data.toList 0 s.size n.toNat
def apfW (s : ByteArray) (p q : Int) : Bool :=
  wordL s.data.toList && perB s p && perB s q && (decide ((s.size : Int) < p + q - ((Nat.gcd p.toNat q.toNat : Nat) : Int)) || perB s ((Nat.gcd p.toNat q.toNat : Nat) : Int))

theorem box_cell (w : World) (x : Value) (t : TypeId) : (w.alloc (.cells #[x] t)).cell? ⟨w.heap.size, 0, none⟩ = some x := by simp
theorem box_cell2 (w : World) (x : Value) (t : TypeId) (d : Nat) : ((w.alloc (.cells #[x] t)).drewN d).cell? ⟨w.heap.size, 0, none⟩ = some x := box_cell w x t

set_option maxHeartbeats 400000 in
theorem isPeriod_c (s : ByteArray) (n : Int) (b : Nat) (w : World) (hs : s.size ≤ 1073741000) (hc : w.cell? ⟨b, 0, none⟩ = some (.string s)) :
    Calls Try.prog 94 #[.int .i64 n, .pointer (some ⟨b, 0, none⟩)] w fun e w' => e = .returned (.bool (perB s n)) ∧ ∃ d, w' = w.drewN d := by
  cases h : inB n 1 s.size
  · have r1 : Hid (perB s n = false) := by simp [perB, h, Hid]
    go_enter Try.func94, Try.ntmps94
    go_wp2_with (go_at_call 88; refine (within_c _ _ _ _).mono ?_; rintro e w' ⟨rfl, rfl⟩)
    go_ret
    exact ⟨ret_bool r1.out.symm, 0, rfl⟩
  · have hi := inB_iff.1 h
    obtain ⟨m, rfl⟩ : ∃ m : Nat, n = m := ⟨n.toNat, by omega⟩
    have r1 : Hid (perB s m = powB s.data.toList 0 s.size m) := by simp [perB, h, Hid]
    have hpc := fun W => Lib.hid (isPower_c s 0 s.size m W (by omega) (by omega) (by omega) (by omega))
    go_enter Try.func94, Try.ntmps94
    go_wp2_with (first | (go_at_call 88; refine (within_c _ _ _ _).mono ?_; rintro e w' ⟨rfl, rfl⟩) | (go_at_call 93; refine (hpc _).out.mono ?_; rintro e w' ⟨rfl, d, rfl⟩))
    go_ret
    exact ⟨ret_bool r1.out.symm, _, rfl⟩

set_option maxHeartbeats 1000000 in
theorem allPeriodsFine_i (s : ByteArray) (p q : Int) (w : World) (hs : s.size ≤ 1073741000) :
    Calls Try.prog 29 #[.string s, .int .i64 p, .int .i64 q] w fun e w' => e = .returned (.bool (apfW s p q)) ∧ Below w.heap.size w w' := by
  obtain ⟨R, hR⟩ : ∃ R, R = apfW s p q := ⟨_, rfl⟩
  rw [← hR]
  have hper := fun n W h => Lib.hid (isPeriod_c s n w.heap.size W hs h)
  cases h1 : wordL s.data.toList
  · have r1 : Hid (R = false) := by simp [hR, apfW, h1, Hid]
    clear hR
    go_enter Try.func29, Try.ntmps29
    go_wp2_with (go_at_call 85; refine (isWord_c _ _ (by unfold maxLen; omega)).mono ?_; rintro e w' ⟨rfl, rfl⟩)
    go_ret
    exact ⟨ret_bool r1.out.symm, (Below.refl _ _).alloc (Nat.le_refl _) _⟩
  · cases h2 : perB s p
    · have r1 : Hid (R = false) := by simp [hR, apfW, h2, Hid]
      clear hR
      go_enter Try.func29, Try.ntmps29
      go_wp2_with (go_at_call 85; refine (isWord_c _ _ (by unfold maxLen; omega)).mono ?_; rintro e w' ⟨rfl, rfl⟩)
      refine ((hper _ _ (box_cell _ _ _)).out).mono ?_
      rintro e w' ⟨rfl, d, rfl⟩
      go_wp2
      go_ret
      exact ⟨ret_bool r1.out.symm, below_drewN ((Below.refl _ _).alloc (Nat.le_refl _) _) _⟩
    · cases h3 : perB s q
      · have r1 : Hid (R = false) := by simp [hR, apfW, h3, Hid]
        clear hR
        go_enter Try.func29, Try.ntmps29
        go_wp2_with (go_at_call 85; refine (isWord_c _ _ (by unfold maxLen; omega)).mono ?_; rintro e w' ⟨rfl, rfl⟩)
        refine ((hper _ _ (box_cell _ _ _)).out).mono ?_
        rintro e w' ⟨rfl, d, rfl⟩
        go_wp2_with fail
        refine ((hper _ _ (box_cell2 _ _ _ _)).out).mono ?_
        rintro e w' ⟨rfl, d2, rfl⟩
        go_wp2
        go_ret
        exact ⟨ret_bool r1.out.symm, below_drewN ((Below.refl _ _).alloc (Nat.le_refl _) _) _⟩
      · have i2 := inB_iff.1 (Bool.and_eq_true_iff.1 h2).1
        have i3 := inB_iff.1 (Bool.and_eq_true_iff.1 h3).1
        obtain ⟨a, rfl⟩ : ∃ a : Nat, p = a := ⟨p.toNat, by omega⟩
        obtain ⟨b, rfl⟩ : ∃ b : Nat, q = b := ⟨q.toNat, by omega⟩
        obtain ⟨g, hg⟩ : ∃ g : Nat, g = Nat.gcd a b := ⟨_, rfl⟩
        have hgl : g ≤ a := by rw [hg]; exact Nat.le_of_dvd (by omega) (Nat.gcd_dvd_left a b)
        have r1 : Hid (R = (decide ((s.size : Int) < (a : Int) + (b : Int) - (g : Int)) || perB s (g : Int))) := by simp [hR, apfW, h1, h2, h3, Hid, hg]
        have hdc := fun W => Lib.hid (divisor_c a b W (by omega) (by omega))
        rw [← hg] at hdc
        clear hR hg
        by_cases hlt : (s.size : Int) < (a : Int) + (b : Int) - (g : Int)
        all_goals
          have HLT := Lib.hid hlt
          go_enter Try.func29, Try.ntmps29
          go_wp2_with (go_at_call 85; refine (isWord_c _ _ (by unfold maxLen; omega)).mono ?_; rintro e w' ⟨rfl, rfl⟩)
          refine ((hper _ _ (box_cell _ _ _)).out).mono ?_
          rintro e w' ⟨rfl, d, rfl⟩
          go_wp2_with fail
          refine ((hper _ _ (box_cell2 _ _ _ _)).out).mono ?_
          rintro e w' ⟨rfl, d2, rfl⟩
          go_wp2_with fail
          refine ((hdc _).out).mono ?_
          rintro e w' ⟨rfl, d3, rfl⟩
        · go_wp2
          go_ret
          exact ⟨ret_bool (by rw [r1.out, decide_eq_true HLT.out, Bool.true_or]), below_drewN ((Below.refl _ _).alloc (Nat.le_refl _) _) _⟩
        · go_wp2_with fail
          refine ((hper _ _ (box_cell2 _ _ _ _)).out).mono ?_
          rintro e w' ⟨rfl, d4, rfl⟩
          go_wp2
          go_ret
          exact ⟨ret_bool (by rw [r1.out, decide_eq_false (Int.not_lt.2 HLT.out), Bool.false_or]), below_drewN ((Below.refl _ _).alloc (Nat.le_refl _) _) _⟩

end Go.Proofs.Ytlmciomoimfajaa
