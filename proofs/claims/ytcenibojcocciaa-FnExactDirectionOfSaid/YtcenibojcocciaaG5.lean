/- Contracts of ChristoffelWord in the program and in the reference. Conditions: none beyond int64 arguments. -/
import Derived.Test.YtcenibojcocciaaG1
import Derived.Test.YtcenibojcocciaaA4
namespace Go.Proofs.Ytcenibojcocciaa
open Go.RowKit
set_option linter.unusedVariables false

def chOk (p q : Int) : Bool := inB q 1 100 && inB p 0 (q - 1) && (Nat.gcd p.toNat q.toNat == 1)
def chS (p q : Int) : ByteArray := if chOk p q = true then St (mechL p q 0 q.toNat) else ⟨#[]⟩
theorem ret_sb {a b : ByteArray} {c d : Bool} (h1 : a = b) (h2 : c = d) : Ending.returned (.tuple #[.string a, .bool c]) = .returned (.tuple #[.string b, .bool d]) := by rw [h1, h2]

set_option maxHeartbeats 1000000 in
theorem christoffel_i (p q : Int) (w : World) :
    Calls Try.prog 24 #[.int .i64 p, .int .i64 q] w fun e w' => e = .returned (.tuple #[.string (chS p q), .bool (chOk p q)]) ∧ Below w.heap.size w w' := by
  by_cases hin : inB q 1 100 = true ∧ inB p 0 (q - 1) = true
  · obtain ⟨h1, h2⟩ := hin
    have b1 := inB_iff.1 h1
    have b2 := inB_iff.1 h2
    obtain ⟨a, rfl⟩ : ∃ a : Nat, p = a := ⟨p.toNat, by omega⟩
    obtain ⟨b, rfl⟩ : ∃ b : Nat, q = b := ⟨q.toNat, by omega⟩
    obtain ⟨g, hg⟩ : ∃ g : Nat, g = Nat.gcd a b := ⟨_, rfl⟩
    have hc := fun W => Lib.hid (divisor_c a b W (by omega) (by omega))
    rw [← hg] at hc
    by_cases hg1 : g = 1
    · have hok : Hid (chOk a b = true) := by unfold Hid chOk; rw [h1, h2, Int.toNat_natCast, Int.toNat_natCast, ← hg, hg1]; rfl
      have hr : Hid (chS a b = St (mechL a b 0 b)) := by unfold Hid chS; rw [if_pos hok.out]; rfl
      have hge : ((g : Int) != 1) = false := by simp [hg1]
      have hm := fun W => Lib.hid (mechanical_yes_i (a : Int) (b : Int) 0 b W (mechOk_iff.2 (by omega)))
      clear hg hg1
      go_enter Try.func24, Try.ntmps24
      go_wp2_with (first | (go_at_call 45; refine (within_c _ _ _ _).mono ?_; rintro e w' ⟨rfl, rfl⟩) | (go_at_call 47; refine (hc _).out.mono ?_; rintro e w' ⟨rfl, d, rfl⟩) | (go_at_call 49; refine (hm _).out.mono ?_; rintro e w' ⟨rfl, hbm⟩))
      go_ret2
      exact ⟨ret_sb hr.out.symm hok.out.symm, (below_drewN (Below.refl _ _) _).trans hbm⟩
    · have hok : Hid (chOk a b = false) := by unfold Hid chOk; rw [h1, h2, Int.toNat_natCast, Int.toNat_natCast, ← hg]; simp [hg1]
      have hr : Hid (chS a b = ⟨#[]⟩) := by unfold Hid chS; rw [if_neg (by rw [hok.out]; decide)]
      have hge : ((g : Int) != 1) = true := bne_iff_ne.2 (by omega)
      clear hg hg1
      go_enter Try.func24, Try.ntmps24
      go_wp2_with (first | (go_at_call 45; refine (within_c _ _ _ _).mono ?_; rintro e w' ⟨rfl, rfl⟩) | (go_at_call 47; refine (hc _).out.mono ?_; rintro e w' ⟨rfl, d, rfl⟩))
      go_ret2
      exact ⟨ret_sb hr.out.symm hok.out.symm, below_drewN (Below.refl _ _) _⟩
  · have hok : Hid (chOk p q = false) := by
      unfold Hid; cases h : chOk p q with
      | false => rfl
      | true => simp only [chOk, Bool.and_eq_true] at h; exact absurd h.1 hin
    have hr : Hid (chS p q = ⟨#[]⟩) := by unfold Hid chS; rw [if_neg (by rw [hok.out]; decide)]
    by_cases h1 : inB q 1 100 = true
    · have b1 := inB_iff.1 h1
      have h2 : ¬ inB p 0 (q - 1) = true := fun h => hin ⟨h1, h⟩
      clear hin
      go_enter Try.func24, Try.ntmps24
      go_wp2_with (go_at_call 45; refine (within_c _ _ _ _).mono ?_; rintro e w' ⟨rfl, rfl⟩)
      go_ret2
      exact ⟨ret_sb hr.out.symm hok.out.symm, Below.refl _ _⟩
    · clear hin
      go_enter Try.func24, Try.ntmps24
      go_wp2_with (go_at_call 45; refine (within_c _ _ _ _).mono ?_; rintro e w' ⟨rfl, rfl⟩)
      go_ret2
      exact ⟨ret_sb hr.out.symm hok.out.symm, Below.refl _ _⟩

set_option maxHeartbeats 1000000 in
theorem christoffel_s (p q : Int) (w : World) :
    Calls Try.prog 23 #[.int .i64 p, .int .i64 q] w fun e w' => e = .returned (.tuple #[.string (chS p q), .bool (chOk p q)]) ∧ Below w.heap.size w w' := by
  by_cases hin : inB q 1 100 = true ∧ inB p 0 (q - 1) = true
  · obtain ⟨h1, h2⟩ := hin
    have b1 := inB_iff.1 h1
    have b2 := inB_iff.1 h2
    obtain ⟨a, rfl⟩ : ∃ a : Nat, p = a := ⟨p.toNat, by omega⟩
    obtain ⟨b, rfl⟩ : ∃ b : Nat, q = b := ⟨q.toNat, by omega⟩
    obtain ⟨g, hg⟩ : ∃ g : Nat, g = Nat.gcd a b := ⟨_, rfl⟩
    have hc := fun W => Lib.hid (l09Gcd_c a b W (by omega) (by omega))
    rw [← hg] at hc
    by_cases hg1 : g = 1
    · have hok : Hid (chOk a b = true) := by unfold Hid chOk; rw [h1, h2, Int.toNat_natCast, Int.toNat_natCast, ← hg, hg1]; rfl
      have hr : Hid (chS a b = St (mechL a b 0 b)) := by unfold Hid chS; rw [if_pos hok.out]; rfl
      have hge : ((g : Int) != 1) = false := by simp [hg1]
      have hm := fun W => Lib.hid (l10Mechanical_c (a : Int) (b : Int) 0 b W (mechOk_iff.2 (by omega)))
      clear hg hg1
      go_enter Try.func23, Try.ntmps23
      go_wp2_with (first | (go_at_call 43; refine (l01In_c _ _ _ _).mono ?_; rintro e w' ⟨rfl, rfl⟩) | (go_at_call 44; refine (hc _).out.mono ?_; rintro e w' ⟨rfl, rfl⟩) | (go_at_call 48; refine (hm _).out.mono ?_; rintro e w' ⟨rfl, hbm⟩))
      go_ret2
      exact ⟨ret_sb hr.out.symm hok.out.symm, hbm⟩
    · have hok : Hid (chOk a b = false) := by unfold Hid chOk; rw [h1, h2, Int.toNat_natCast, Int.toNat_natCast, ← hg]; simp [hg1]
      have hr : Hid (chS a b = ⟨#[]⟩) := by unfold Hid chS; rw [if_neg (by rw [hok.out]; decide)]
      have hge : ((g : Int) != 1) = true := bne_iff_ne.2 (by omega)
      clear hg hg1
      go_enter Try.func23, Try.ntmps23
      go_wp2_with (first | (go_at_call 43; refine (l01In_c _ _ _ _).mono ?_; rintro e w' ⟨rfl, rfl⟩) | (go_at_call 44; refine (hc _).out.mono ?_; rintro e w' ⟨rfl, rfl⟩))
      go_ret2
      exact ⟨ret_sb hr.out.symm hok.out.symm, Below.refl _ _⟩
  · have hok : Hid (chOk p q = false) := by
      unfold Hid; cases h : chOk p q with
      | false => rfl
      | true => simp only [chOk, Bool.and_eq_true] at h; exact absurd h.1 hin
    have hr : Hid (chS p q = ⟨#[]⟩) := by unfold Hid chS; rw [if_neg (by rw [hok.out]; decide)]
    by_cases h1 : inB q 1 100 = true
    · have b1 := inB_iff.1 h1
      have h2 : ¬ inB p 0 (q - 1) = true := fun h => hin ⟨h1, h⟩
      clear hin
      go_enter Try.func23, Try.ntmps23
      go_wp2_with (go_at_call 43; refine (l01In_c _ _ _ _).mono ?_; rintro e w' ⟨rfl, rfl⟩)
      go_ret2
      exact ⟨ret_sb hr.out.symm hok.out.symm, Below.refl _ _⟩
    · clear hin
      go_enter Try.func23, Try.ntmps23
      go_wp2_with (go_at_call 43; refine (l01In_c _ _ _ _).mono ?_; rintro e w' ⟨rfl, rfl⟩)
      go_ret2
      exact ⟨ret_sb hr.out.symm hok.out.symm, Below.refl _ _⟩


theorem lawChristoffelWord_w (p q : Int) (w : World) (w0 : (Lit.int .i64 p).wf = true) (w1 : (Lit.int .i64 q).wf = true) :
    Calls Try.prog 6 #[.int .i64 p, .int .i64 q] w fun e w' => e = .returned (.bool true) ∧ Below w.heap.size w w' := by
  go_enter Try.func6, Try.ntmps6
  go_wp2_with (first | (go_at_call 23; refine (christoffel_s _ _ _).mono ?_; rintro e w1 ⟨rfl, hb1⟩) | (go_at_call 24; refine (christoffel_i _ _ _).mono ?_; rintro e w2 ⟨rfl, hb2⟩))
  go_ret
  exact ⟨rfl, hb1.trans (hb2.mono hb1.size)⟩
end Go.Proofs.Ytcenibojcocciaa
