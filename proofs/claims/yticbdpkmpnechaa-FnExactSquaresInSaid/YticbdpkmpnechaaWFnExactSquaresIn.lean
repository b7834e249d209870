/- The walk of the law FnExactSquaresIn: it returns true. Conditions: none beyond the law's own test of the length. -/
import Derived.Test.YticbdpkmpnechaaT6
namespace Go.Proofs.Yticbdpkmpnechaa
open Go.RowKit
set_option linter.unusedVariables false

set_option maxHeartbeats 2000000 in
theorem lawSquaresIn_w (a0 : ByteArray) (w : World) (w0 : a0.size ≤ maxLen) :
    Calls Try.prog 11 #[.string a0] w fun e w' => e = .returned (.bool true) ∧ Below w.heap.size w w' := by
  unfold maxLen at w0
  by_cases hs : 1048576 < a0.size
  · go_enter Try.func11, Try.ntmps11
    go_wp2
    go_ret
    exact ⟨rfl, Below.refl _ _⟩
  · have hs' : a0.size ≤ 1048576 := by omega
    have hlen : (sqW a0).length ≤ 2000000 := by have := sqW_len a0; omega
    obtain ⟨L, hL⟩ : ∃ L, L = sqW a0 := ⟨_, rfl⟩
    rw [← hL] at hlen
    have hS := fun W => Lib.hid (squaresIn_s a0 W (by omega))
    have hI := fun W => Lib.hid (squaresIn_i a0 W (by omega))
    rw [← hL] at hS hI
    clear hL
    have hdec : cBs L L = true := decide_eq_true rfl
    have hq : (((1 + L.length : Nat) : Int) != ((1 + L.length : Nat) : Int)) = false := by simp
    have hneg : decide (((1 + L.length : Nat) : Int) < 0) = false := decide_eq_false (by omega)
    have hneg' : 0 ≤ ((1 + L.length : Nat) : Int) := by omega
    go_enter Try.func11, Try.ntmps11
    go_wp2_with fail
    refine (hS _).out.mono ?_
    rintro e w1 ⟨v0, rfl, o1, b1⟩
    have O1 := Lib.hid o1
    clear o1
    go_wp2_with fail
    refine (hI _).out.mono ?_
    rintro e w2 ⟨v1, rfl, o2, b2⟩
    have O1' := Lib.hid (own_below O1.out b2)
    have O2 := Lib.hid o2
    have s1 := b1.size
    have s2 := b2.size
    clear o2
    go_wp2_with fail
    refine (eqStringS_c v1 v0 L L w2 (OwnS.rd O2.out) (OwnS.rd O1'.out) (by omega) (by omega)).mono ?_
    rintro e w3 ⟨rfl, d, rfl⟩
    go_wp2_with fail
    refine (markStringS_c v1 L 1 w1.heap.size (w2.drewN d) O2.out (by omega) (by omega)).mono ?_
    rintro e w4 ⟨rfl, o4, g4⟩
    have O14 := Lib.hid (own_other (w := w2.drewN d) (w' := w4) O1'.out O1.out (Nat.le_refl _) O2.out g4)
    have O4 := Lib.hid o4
    have s4 : w2.heap.size ≤ w4.heap.size := g4.size
    have b4 : Below w.heap.size w w4 := (below_drewN (b1.trans (b2.mono s1)) d).trans (below_of_grown (w := w2.drewN d) O2.out g4 s1 (Nat.le_trans s1 s2))
    clear o4 g4
    go_wp2_with fail
    refine (heldStringS_c v1 1 L.length w4 (OwnS.rd O4.out) (by omega) (by omega)).mono ?_
    rintro e w5 ⟨rfl, b5⟩
    have O145 := Lib.hid (own_below O14.out b5)
    have O45 := Lib.hid (own_below O4.out b5)
    have s5 := b5.size
    go_wp2_with fail
    refine (hI _).out.mono ?_
    rintro e w6 ⟨v2, rfl, o6, b6⟩
    have O16 := Lib.hid (own_below O145.out b6)
    have O46 := Lib.hid (own_below O45.out b6)
    have O6 := Lib.hid o6
    have s6 := b6.size
    clear o6
    go_wp2_with fail
    refine (eqStringS_c v2 v0 L L w6 (OwnS.rd O6.out) (OwnS.rd O16.out) (by omega) (by omega)).mono ?_
    rintro e w7 ⟨rfl, d7, rfl⟩
    go_wp2_with fail
    refine (heldStringS_c v1 1 L.length (w6.drewN d7) (OwnS.rd O46.out) (by omega) (by omega)).mono ?_
    rintro e w8 ⟨rfl, b8⟩
    have b8' : Below w6.heap.size (w6.drewN d7) w8 := b8
    go_wp2_with fail
    go_ret
    exact ⟨rfl, (below_drewN ((b4.trans (b5.mono (by omega))).trans (b6.mono (by omega))) d7).trans (b8'.mono (by omega))⟩
end Go.Proofs.Yticbdpkmpnechaa
