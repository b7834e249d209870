/- Contracts of ReturnTime in the program and in the reference: both answer 'retTime'. Conditions: the arguments are int64 numbers. -/
import Derived.Test.YticbdpkmpnechaaA1
namespace Go.Proofs.Yticbdpkmpnechaa
open Go.RowKit
set_option linter.unusedVariables false

/-- the first i from 'i' on, of at most 'n' tries, at which the point lies in the arc; -1 if there is none -/
def rtGo (p q lo hi fr : Int) : Nat → Int → Int
  | 0, _ => -1
  | n + 1, i => if inB ((fr + i * p) % q) lo hi = true then i else rtGo p q lo hi fr n (i + 1)
def rtOk (p q lo hi fr : Int) : Bool := inB q 1 1000 && inB p 0 (q - 1) && inB lo 0 (q - 1) && inB hi 0 (q - 1) && inB fr 0 (q - 1)
def retTime (p q lo hi fr : Int) : Int := if rtOk p q lo hi fr = true then rtGo p q lo hi fr 1000 1 else -1

theorem rtGo_hit {p q lo hi fr : Int} {n : Nat} {i : Int} (h : inB ((fr + i * p) % q) lo hi = true) : rtGo p q lo hi fr (n + 1) i = i := by
  unfold rtGo; rw [if_pos h]
theorem rtGo_miss {p q lo hi fr : Int} {n : Nat} {i : Int} (h : ¬ inB ((fr + i * p) % q) lo hi = true) : rtGo p q lo hi fr (n + 1) i = rtGo p q lo hi fr n (i + 1) := by
  rw [rtGo, if_neg h]
theorem rt_mul {i p : Int} {k : Nat} (hk : (k : Int) ≤ 1001) (h0 : 0 ≤ p) (h1 : p ≤ 1000) : 0 ≤ (k : Int) * p ∧ (k : Int) * p ≤ 1001000 := by
  constructor
  · exact Int.mul_nonneg (by omega) h0
  · have h : (k : Int) * p ≤ 1001 * 1000 := Int.mul_le_mul hk h1 h0 (by omega)
    omega

/-- what the loop leaves of the answer after k rounds -/
def rtAt (p q lo hi fr : Int) (k : Nat) (r : Int) : Prop := 1 ≤ k ∧ k ≤ 1001 ∧ r = rtGo p q lo hi fr (1001 - k) k
theorem rtAt_hit {p q lo hi fr r : Int} {k : Nat} (h : rtAt p q lo hi fr k r) (hk : k ≤ 1000) (hh : inB ((fr + (k : Int) * p) % q) lo hi = true) : r = k := by
  obtain ⟨_, _, e⟩ := h
  rw [e, show 1001 - k = (1000 - k) + 1 by omega, rtGo_hit hh]
theorem rtAt_miss {p q lo hi fr r : Int} {k : Nat} (h : rtAt p q lo hi fr k r) (hk : k ≤ 1000) (hh : ¬ inB ((fr + (k : Int) * p) % q) lo hi = true) : rtAt p q lo hi fr (k + 1) r := by
  obtain ⟨_, _, e⟩ := h
  refine ⟨by omega, by omega, ?_⟩
  rw [e, show 1001 - k = (1000 - k) + 1 by omega, rtGo_miss hh, show 1001 - (k + 1) = 1000 - k by omega]; rfl
theorem rtAt_end {p q lo hi fr r : Int} {k : Nat} (h : rtAt p q lo hi fr k r) (hk : ¬ k ≤ 1000) : r = -1 := by
  obtain ⟨_, _, e⟩ := h
  rw [e, show 1001 - k = 0 by omega]; rfl

def arcOk (p q lo hi : Int) : Bool := inB q 1 1000 && inB p 0 (q - 1) && inB lo 0 (q - 1) && inB hi 0 (q - 1)
theorem l11Arc_c (p q lo hi : Int) (w : World) :
    Calls Try.prog 55 #[.int .i64 p, .int .i64 q, .int .i64 lo, .int .i64 hi] w fun e w' => e = .returned (.bool (arcOk p q lo hi)) ∧ w = w' := by
  by_cases h1 : inB q 1 1000 = true
  · have h1' := inB_iff.1 h1
    go_enter Try.func55, Try.ntmps55
    go_wp2_with (go_at_call 66; refine (l01In_c _ _ _ _).mono ?_; rintro e w' ⟨rfl, rfl⟩)
    all_goals (go_ret; exact ⟨ret_bool (by simp [arcOk, *]), rfl⟩)
  · go_enter Try.func55, Try.ntmps55
    go_wp2_with (go_at_call 66; refine (l01In_c _ _ _ _).mono ?_; rintro e w' ⟨rfl, rfl⟩)
    all_goals (go_ret; exact ⟨ret_bool (by simp [arcOk, *]), rfl⟩)

set_option maxHeartbeats 400000 in
theorem returnTime_i (p q lo hi fr : Int) (w : World) :
    Calls Try.prog 47 #[.int .i64 p, .int .i64 q, .int .i64 lo, .int .i64 hi, .int .i64 fr] w fun e w' => e = .returned (.int .i64 (retTime p q lo hi fr)) ∧ w = w' := by
  by_cases hok : rtOk p q lo hi fr = true
  · obtain ⟨⟨⟨⟨h1, h2⟩, h3⟩, h4⟩, h5⟩ : (((inB q 1 1000 = true ∧ inB p 0 (q - 1) = true) ∧ inB lo 0 (q - 1) = true) ∧ inB hi 0 (q - 1) = true) ∧ inB fr 0 (q - 1) = true := by simpa [rtOk] using hok
    have hA : arcOk p q lo hi = true := by simp [arcOk, h1, h2, h3, h4]
    have h1' := inB_iff.1 h1
    have h2' := inB_iff.1 h2
    have h5' := inB_iff.1 h5
    obtain ⟨r, hr⟩ : ∃ r, r = retTime p q lo hi fr := ⟨_, rfl⟩
    have hs : Hid (rtAt p q lo hi fr 1 r) := ⟨by omega, by omega, by rw [hr]; simp [retTime, rtOk, h1, h2, h3, h4, h5]⟩
    have hr' : Hid (r = retTime p q lo hi fr) := hr
    clear hr hok
    go_enter Try.func47, Try.ntmps47
    go_wp2_with ((go_at_call 57; refine (within_c _ _ _ _).mono ?_; rintro e w' ⟨rfl, rfl⟩))
    go_loop [11] (fun i => ∃ k : Nat, k ≤ 1001 ∧ i = .int .i64 k ∧ Hid (rtAt p q lo hi fr k r)) (fun i => 1001 - (intOf i).toNat)
    case atStart => exact ⟨1, by omega, rfl, hs⟩
    case round =>
      obtain ⟨k, hk, rfl, hK⟩ := hrel
      have hm := rt_mul (i := k) (k := k) (by omega) h2'.1 (by omega : p ≤ 1000)
      go_wp2_with ((go_at_call 57; refine (within_c _ _ _ _).mono ?_; rintro e w' ⟨rfl, rfl⟩))
      · go_ret
        exact ⟨ret_int (by rw [← hr'.out]; exact (rtAt_hit hK.out (by omega) (by assumption)).symm), rfl⟩
      · go_round
        case rel => exact ⟨k + 1, by omega, by go_num, rtAt_miss hK.out (by omega) (by simp [*])⟩
        case measure => simp [intOf]; omega
      · go_ret
        exact ⟨ret_int (by rw [← hr'.out]; exact (rtAt_end hK.out (by omega)).symm), rfl⟩
  · have hrt : Hid (retTime p q lo hi fr = -1) := if_neg hok
    by_cases h1 : inB q 1 1000 = true
    · have h1' := inB_iff.1 h1
      have ht : inB p 0 (q - 1) = true → inB lo 0 (q - 1) = true → inB hi 0 (q - 1) = true → (!inB fr 0 (q - 1)) = false → False := fun a b c d => hok (by simp only [Bool.not_eq_false'] at d; simp [rtOk, h1, a, b, c, d])
      clear hok
      go_enter Try.func47, Try.ntmps47
      go_wp2_with ((go_at_call 57; refine (within_c _ _ _ _).mono ?_; rintro e w' ⟨rfl, rfl⟩))
      all_goals first | exact (ht (by assumption) (by assumption) (by assumption) (by assumption)).elim | (go_ret; exact ⟨ret_int hrt.out.symm, rfl⟩)
    · clear hok
      go_enter Try.func47, Try.ntmps47
      go_wp2_with ((go_at_call 57; refine (within_c _ _ _ _).mono ?_; rintro e w' ⟨rfl, rfl⟩))
      all_goals (go_ret; exact ⟨ret_int hrt.out.symm, rfl⟩)

set_option maxHeartbeats 400000 in
theorem returnTime_s (p q lo hi fr : Int) (w : World) :
    Calls Try.prog 56 #[.int .i64 p, .int .i64 q, .int .i64 lo, .int .i64 hi, .int .i64 fr] w fun e w' => e = .returned (.int .i64 (retTime p q lo hi fr)) ∧ w = w' := by
  by_cases hok : rtOk p q lo hi fr = true
  · obtain ⟨⟨⟨⟨h1, h2⟩, h3⟩, h4⟩, h5⟩ : (((inB q 1 1000 = true ∧ inB p 0 (q - 1) = true) ∧ inB lo 0 (q - 1) = true) ∧ inB hi 0 (q - 1) = true) ∧ inB fr 0 (q - 1) = true := by simpa [rtOk] using hok
    have hA : arcOk p q lo hi = true := by simp [arcOk, h1, h2, h3, h4]
    have h1' := inB_iff.1 h1
    have h2' := inB_iff.1 h2
    have h5' := inB_iff.1 h5
    obtain ⟨r, hr⟩ : ∃ r, r = retTime p q lo hi fr := ⟨_, rfl⟩
    have hs : Hid (rtAt p q lo hi fr 1 r) := ⟨by omega, by omega, by rw [hr]; simp [retTime, rtOk, h1, h2, h3, h4, h5]⟩
    have hr' : Hid (r = retTime p q lo hi fr) := hr
    clear hr hok
    go_enter Try.func56, Try.ntmps56
    go_wp2_with (first | (go_at_call 55; refine (l11Arc_c _ _ _ _ _).mono ?_; rintro e w' ⟨rfl, rfl⟩) | (go_at_call 66; refine (l01In_c _ _ _ _).mono ?_; rintro e w' ⟨rfl, rfl⟩))
    go_loop [11] (fun i => ∃ k : Nat, k ≤ 1001 ∧ i = .int .i64 k ∧ Hid (rtAt p q lo hi fr k r)) (fun i => 1001 - (intOf i).toNat)
    case atStart => exact ⟨1, by omega, rfl, hs⟩
    case round =>
      obtain ⟨k, hk, rfl, hK⟩ := hrel
      have hm := rt_mul (i := k) (k := k) (by omega) h2'.1 (by omega : p ≤ 1000)
      go_wp2_with (first | (go_at_call 55; refine (l11Arc_c _ _ _ _ _).mono ?_; rintro e w' ⟨rfl, rfl⟩) | (go_at_call 66; refine (l01In_c _ _ _ _).mono ?_; rintro e w' ⟨rfl, rfl⟩))
      · go_ret
        exact ⟨ret_int (by rw [← hr'.out]; exact (rtAt_hit hK.out (by omega) (by assumption)).symm), rfl⟩
      · go_round
        case rel => exact ⟨k + 1, by omega, by go_num, rtAt_miss hK.out (by omega) (by simp [*])⟩
        case measure => simp [intOf]; omega
      · go_ret
        exact ⟨ret_int (by rw [← hr'.out]; exact (rtAt_end hK.out (by omega)).symm), rfl⟩
  · have hrt : Hid (retTime p q lo hi fr = -1) := if_neg hok
    by_cases h1 : arcOk p q lo hi = true
    · have h5 : ¬ inB fr 0 (q - 1) = true := fun h => hok (by rw [rtOk]; rw [arcOk] at h1; rw [h1, h]; rfl)
      have h1' : 1 ≤ q ∧ q ≤ 1000 := inB_iff.1 (by simp [arcOk] at h1; exact h1.1.1.1)
      clear hok
      go_enter Try.func56, Try.ntmps56
      go_wp2_with (first | (go_at_call 55; refine (l11Arc_c _ _ _ _ _).mono ?_; rintro e w' ⟨rfl, rfl⟩) | (go_at_call 66; refine (l01In_c _ _ _ _).mono ?_; rintro e w' ⟨rfl, rfl⟩))
      all_goals (go_ret; exact ⟨ret_int hrt.out.symm, rfl⟩)
    · clear hok
      go_enter Try.func56, Try.ntmps56
      go_wp2_with (first | (go_at_call 55; refine (l11Arc_c _ _ _ _ _).mono ?_; rintro e w' ⟨rfl, rfl⟩) | (go_at_call 66; refine (l01In_c _ _ _ _).mono ?_; rintro e w' ⟨rfl, rfl⟩))
      all_goals (go_ret; exact ⟨ret_int hrt.out.symm, rfl⟩)

end Go.Proofs.Yticbdpkmpnechaa
