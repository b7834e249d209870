/- The walk of the law FnExactReturnTimes: it returns true. Conditions: none beyond the law's own test of the length. -/
import Derived.Test.YticbdpkmpnechaaS9
namespace Go.Proofs.Yticbdpkmpnechaa
open Go.RowKit
set_option linter.unusedVariables false

set_option maxHeartbeats 2000000 in
theorem lawReturnTimes_w (a0 : Int) (a1 : Int) (a2 : Int) (a3 : Int) (w : World) (w0 : (Lit.int .i64 a0).wf = true) (w1 : (Lit.int .i64 a1).wf = true) (w2 : (Lit.int .i64 a2).wf = true) (w3 : (Lit.int .i64 a3).wf = true) :
    Calls Try.prog 6 #[.int .i64 a0, .int .i64 a1, .int .i64 a2, .int .i64 a3] w fun e w' => e = .returned (.bool true) ∧ Below w.heap.size w w' := by
  have hlen : (rtsW a0 a1 a2 a3).length ≤ 2000000 := by have := rtsW_len a0 a1 a2 a3; omega
  obtain ⟨L, hL⟩ : ∃ L, L = rtsW a0 a1 a2 a3 := ⟨_, rfl⟩
  rw [← hL] at hlen
  have hS := fun W => Lib.hid (returnTimes_s a0 a1 a2 a3 W)
  have hI := fun W => Lib.hid (returnTimes_i a0 a1 a2 a3 W)
  rw [← hL] at hS hI
  clear hL
  have hdec : decide (L = L) = true := decide_eq_true rfl
  have hq : (((1 + L.length : Nat) : Int) != ((1 + L.length : Nat) : Int)) = false := by simp
  have hneg : decide (((1 + L.length : Nat) : Int) < 0) = false := decide_eq_false (by omega)
  have hneg' : 0 ≤ ((1 + L.length : Nat) : Int) := by omega
  go_enter Try.func6, Try.ntmps6
  go_wp2_with fail
  refine (hS _).out.mono ?_
  rintro e w1 ⟨v0, rfl, o1, b1⟩
  have O1 := Lib.hid o1
  clear o1
  go_wp2_with fail
  refine (hI _).out.mono ?_
  rintro e w2 ⟨v1, rfl, o2, b2⟩
  have O1' := Lib.hid (own_below O1.out b2)
  have O2 := Lib.hid o2
  have s1 := b1.size
  have s2 := b2.size
  clear o2
  go_wp2_with fail
  refine (eqIntS_c v1 v0 L L w2 (OwnI.rd O2.out) (OwnI.rd O1'.out) (by omega) (by omega)).mono ?_
  rintro e w3 ⟨rfl, d, rfl⟩
  go_wp2_with fail
  refine (markIntS_c v1 L 1 w1.heap.size (w2.drewN d) O2.out (by omega) (by omega)).mono ?_
  rintro e w4 ⟨rfl, o4, g4⟩
  have O14 := Lib.hid (own_other (w := w2.drewN d) (w' := w4) O1'.out O1.out (Nat.le_refl _) O2.out g4)
  have O4 := Lib.hid o4
  have s4 : w2.heap.size ≤ w4.heap.size := g4.size
  have b4 : Below w.heap.size w w4 := (below_drewN (b1.trans (b2.mono s1)) d).trans (below_of_grown (w := w2.drewN d) O2.out g4 s1 (Nat.le_trans s1 s2))
  clear o4 g4
  go_wp2_with fail
  refine (heldIntS_c v1 1 L.length w4 (OwnI.rd O4.out) (by omega) (by omega)).mono ?_
  rintro e w5 ⟨rfl, rfl⟩
  go_wp2_with fail
  refine (hI _).out.mono ?_
  rintro e w6 ⟨v2, rfl, o6, b6⟩
  have O16 := Lib.hid (own_below O14.out b6)
  have O46 := Lib.hid (own_below O4.out b6)
  have O6 := Lib.hid o6
  have s6 := b6.size
  clear o6
  go_wp2_with fail
  refine (eqIntS_c v2 v0 L L w6 (OwnI.rd O6.out) (OwnI.rd O16.out) (by omega) (by omega)).mono ?_
  rintro e w7 ⟨rfl, d7, rfl⟩
  go_wp2_with fail
  refine (heldIntS_c v1 1 L.length (w6.drewN d7) (OwnI.rd O46.out) (by omega) (by omega)).mono ?_
  rintro e w8 ⟨rfl, rfl⟩
  go_wp2_with fail
  go_ret
  exact ⟨rfl, below_drewN (b4.trans (b6.mono (by omega))) _⟩
end Go.Proofs.Yticbdpkmpnechaa
