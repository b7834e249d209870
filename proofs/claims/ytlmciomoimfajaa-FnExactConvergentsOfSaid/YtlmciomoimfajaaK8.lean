/- The walk of the law FnExactConvergentsOf. Conditions: the row can be read. -/
import Derived.Test.YtlmciomoimfajaaK5
import Derived.Test.YtlmciomoimfajaaK6
import Derived.Test.YtlmciomoimfajaaK7
namespace Go.Proofs.Ytlmciomoimfajaa
open Go.RowKit
set_option linter.unusedVariables false

theorem cvD20 (ks : List Int) : (cvD ks).length ≤ 20 := by
  cases hc : cfOk ks
  · rw [cvD_no hc]; simp
  · have h1 := cvD_len ks
    unfold cfOk at hc
    rw [Bool.and_eq_true] at hc
    have := inB_iff.1 hc.1
    omega
set_option maxRecDepth 20000 in
set_option maxHeartbeats 4000000 in
theorem lawConvergentsOf_w (a0 : Option Addr) (len0 cap0 : Nat) (z0 : List Int) (w : World) (w0 : IsRow .i64 w a0 len0 cap0 z0) :
    Calls Try.prog 6 #[.slice a0 len0 cap0] w fun e w' => e = .returned (.bool true) ∧ Below w.heap.size w w' := by
  by_cases hbig : 1048576 < len0
  · have hd : decide ((1048576 : Int) < (len0 : Int)) = true := decide_eq_true (by omega)
    go_enter Try.func6, Try.ntmps6
    go_wp2
    go_ret
    exact ⟨rfl, Below.refl _ _⟩
  · have hd : decide ((1048576 : Int) < (len0 : Int)) = false := decide_eq_false (by omega)
    have hT := fun W (hW : IsRow .i64 W a0 len0 cap0 z0) => Lib.hid (toIntS_c a0 len0 cap0 z0 W hW (by omega))
    have hll := isRow_len w0
    obtain ⟨l, hL⟩ : ∃ l, l = z0.take len0 := ⟨_, rfl⟩
    rw [← hL] at hT hll
    have hlb : l.length ≤ 1048576 := by omega
    have HLB := Lib.hid hlb
    have hdl := cvD20 l
    have HDL := Lib.hid hdl
    have hdec : decide (l = l) = true := decide_eq_true rfl
    have c1 := hT w w0
    have HW := Lib.hid w0
    have hS := fun v W (h : RdI W v l) => Lib.hid (convergentsOf_s v l W h HLB.out)
    have hI := fun v W (h : RdI W v l) => Lib.hid (convergentsOf_i v l W h HLB.out)
    obtain ⟨D, hD⟩ : ∃ D, D = cvD l := ⟨_, rfl⟩
    rw [← hD] at hS hI HDL
    obtain ⟨M, hM⟩ : ∃ M : Nat, M = 1 + 2 * D.length := ⟨_, rfl⟩
    have HM := Lib.hid hM
    have hMb : M ≤ 3000000 := by have := HDL.out; omega
    obtain ⟨K, hK⟩ : ∃ K : Nat, K = 1 + l.length := ⟨_, rfl⟩
    have HK := Lib.hid hK
    have hKb : K ≤ 3000000 := by omega
    have hk0 : decide ((K : Int) < 0) = false := decide_eq_false (by omega)
    have hm0 : decide ((M : Int) < 0) = false := decide_eq_false (by omega)
    have hmm : ((M : Int) != (M : Int)) = false := by simp
    clear hL hll hbig w0 hlb hD hdl hM hK
    go_enter Try.func6, Try.ntmps6
    go_wp2_with fail
    refine c1.out.mono ?_
    rintro e w1 ⟨v1, rfl, o1, b1⟩
    have c2 := hS v1 w1 o1.rd
    have HB1 := Lib.hid b1
    clear o1 c1 b1
    go_wp2_with fail
    refine c2.out.mono ?_
    rintro e w2 ⟨u0, rfl, o2, b2⟩
    have HU0 := Lib.hid o2
    have HB2 := Lib.hid (HB1.out.trans (b2.mono HB1.out.size))
    have c3 := hT w2 (HW.out.keep HB2.out)
    clear o2 b2 c2 hS
    go_wp2_with fail
    refine c3.out.mono ?_
    rintro e w3 ⟨v2, rfl, o3, b3⟩
    have HO3 := Lib.hid o3
    have HL3 := Lib.hid b3
    have HB3 := Lib.hid (HB2.out.trans (b3.mono HB2.out.size))
    have c4 := hI v2 w3 o3.rd
    clear o3 b3 c3
    go_wp2_with fail
    refine c4.out.mono ?_
    rintro e w4 ⟨u1, rfl, o4, b4⟩
    have HU1 := Lib.hid o4
    have HS4 := Lib.hid b4.size
    have HO4 := Lib.hid (own_below HO3.out b4)
    have HL4 := Lib.hid (HL3.out.trans (b4.mono HL3.out.size))
    have HB4 := Lib.hid (HB3.out.trans (b4.mono HB3.out.size))
    have c5 := Lib.hid (eqIntSS_c u1 u0 D _ _ w4 HU1.out (ownR_low HU0.out HL4.out) (by have := HDL.out; omega))
    clear o4 b4 c4
    go_wp2_with fail
    refine c5.out.mono ?_
    rintro e w5 ⟨rfl, d5, hw5⟩
    have HU15 : Hid (OwnR w5 w3.heap.size u1 D) := by rw [hw5]; exact HU1.out
    have HO5 : Hid (OwnI w5 w2.heap.size v2 l) := by rw [hw5]; exact HO4.out
    have HL5 : Hid (Below w2.heap.size w2 w5) := by rw [hw5]; exact below_drewN HL4.out _
    have HB5 : Hid (Below w.heap.size w w5) := by rw [hw5]; exact below_drewN HB4.out _
    have HS5 : Hid (w3.heap.size ≤ w5.heap.size) := by
      rw [hw5]; exact HS4.out
    clear hw5 c5 HU1 HO4 HL4 HB4
    have c6 := hT w5 (HW.out.keep HB5.out)
    go_wp2_with fail
    refine c6.out.mono ?_
    rintro e w6 ⟨v4, rfl, o6, b6⟩
    have HO6 := Lib.hid (own_below HO5.out b6)
    have HU16 := Lib.hid (ownR_low HU15.out b6)
    have HL6 := Lib.hid (HL5.out.trans (b6.mono HL5.out.size))
    have HB6 := Lib.hid (HB5.out.trans (b6.mono HB5.out.size))
    have HS6 : Hid (w3.heap.size ≤ w6.heap.size) := Nat.le_trans HS5.out b6.size
    have c7 := Lib.hid (eqIntS_c v2 v4 l l w6 (OwnI.rd HO6.out) (OwnI.rd o6) (by have := HLB.out; omega) (by have := HLB.out; omega))
    clear o6 b6 c6 HU15 HO5 HL5 HB5 HS5
    go_wp2_with fail
    refine c7.out.mono ?_
    rintro e w7 ⟨rfl, d7, hw7⟩
    have HU17 : Hid (OwnR w7 w3.heap.size u1 D) := by rw [hw7]; exact HU16.out
    have HO7 : Hid (OwnI w7 w2.heap.size v2 l) := by rw [hw7]; exact HO6.out
    have HL7 : Hid (Below w2.heap.size w2 w7) := by rw [hw7]; exact below_drewN HL6.out _
    have HB7 : Hid (Below w.heap.size w w7) := by rw [hw7]; exact below_drewN HB6.out _
    have HS7 : Hid (w3.heap.size ≤ w7.heap.size) := by rw [hw7]; exact HS6.out
    clear hw7 c7 HU16 HO6 HL6 HB6 HS6
    have c8 := Lib.hid (markIntS_c v2 l 1 w2.heap.size w7 HO7.out (by have := HLB.out; omega) (by omega))
    rw [← HK.out] at c8
    go_wp2_with fail
    refine c8.out.mono ?_
    rintro e w8 ⟨rfl, o8, g8⟩
    have HU18 := Lib.hid (ownR_grown HU17.out g8 (fun k hk => (HO3.out.lt k hk).2))
    have HL8 : Hid (Below w2.heap.size w2 w8) := HL7.out.grown g8 HL7.out.size (fun k hk => (HO3.out.lt k hk).1)
    have HB8 : Hid (Below w.heap.size w w8) := HB7.out.grown g8 HB7.out.size (fun k hk => Nat.le_trans HB2.out.size (HO3.out.lt k hk).1)
    have HS8 : Hid (w3.heap.size ≤ w8.heap.size) := Nat.le_trans HS7.out g8.size
    have c9 := Lib.hid (eqIntSS_c u1 u0 D _ _ w8 HU18.out (ownR_low HU0.out HL8.out) (by have := HDL.out; omega))
    clear o8 g8 c8 HU17 HO7 HL7 HB7 HS7
    go_wp2_with fail
    refine c9.out.mono ?_
    rintro e w9 ⟨rfl, d9, hw9⟩
    have HU19 : Hid (OwnR w9 w3.heap.size u1 D) := by rw [hw9]; exact HU18.out
    have HL9 : Hid (Below w2.heap.size w2 w9) := by rw [hw9]; exact below_drewN HL8.out _
    have HB9 : Hid (Below w.heap.size w w9) := by rw [hw9]; exact below_drewN HB8.out _
    have HS9 : Hid (w3.heap.size ≤ w9.heap.size) := by rw [hw9]; exact HS8.out
    clear hw9 c9 HU18 HL8 HB8 HS8
    have c10 := Lib.hid (markIntSS_c u1 D 1 w3.heap.size w9 HU19.out HS9.out (by have := HDL.out; omega) (by omega))
    rw [← HM.out] at c10
    go_wp2_with fail
    refine c10.out.mono ?_
    rintro e w10 ⟨rfl, o10, b10⟩
    have HU110 := Lib.hid o10
    have HL10 : Hid (Below w2.heap.size w2 w10) := HL9.out.trans (b10.mono HL3.out.size)
    have HB10 : Hid (Below w.heap.size w w10) := HB9.out.trans (b10.mono HB3.out.size)
    have c11 := Lib.hid (heldIntSS_c u1 1 D.length _ w10 HU110.out (by have := HDL.out; omega) (by omega))
    rw [← HM.out] at c11
    clear o10 b10 c10 HU19 HL9 HB9 HS9
    go_wp2_with fail
    refine c11.out.mono ?_
    rintro e w11 ⟨rfl, rfl⟩
    have c12 := hT w10 (HW.out.keep HB10.out)
    clear c11
    go_wp2_with fail
    refine c12.out.mono ?_
    rintro e w12 ⟨v5, rfl, o12, b12⟩
    have HU112 := Lib.hid (ownR_low HU110.out b12)
    have HL12 := Lib.hid (HL10.out.trans (b12.mono HL10.out.size))
    have HB12 := Lib.hid (HB10.out.trans (b12.mono HB10.out.size))
    have c13 := hI v5 w12 o12.rd
    clear o12 b12 c12 HU110 HL10 HB10
    go_wp2_with fail
    refine c13.out.mono ?_
    rintro e w13 ⟨u2, rfl, o13, b13⟩
    have HU2 := Lib.hid o13
    have HU113 := Lib.hid (ownR_low HU112.out b13)
    have HL13 := Lib.hid (HL12.out.trans (b13.mono HL12.out.size))
    have HB13 := Lib.hid (HB12.out.trans (b13.mono HB12.out.size))
    have c14 := Lib.hid (eqIntSS_c u2 u0 D _ _ w13 HU2.out (ownR_low HU0.out HL13.out) (by have := HDL.out; omega))
    clear o13 b13 c13 HU112 HL12 HB12
    go_wp2_with fail
    refine c14.out.mono ?_
    rintro e w14 ⟨rfl, d14, hw14⟩
    have HU114 : Hid (OwnR w14 w3.heap.size u1 (mkP 1 D.length)) := by rw [hw14]; exact HU113.out
    have HB14 : Hid (Below w.heap.size w w14) := by rw [hw14]; exact below_drewN HB13.out _
    clear hw14 c14 HU113 HL13 HB13
    have c15 := Lib.hid (heldIntSS_c u1 1 D.length _ w14 HU114.out (by have := HDL.out; omega) (by omega))
    rw [← HM.out] at c15
    go_wp2_with fail
    refine c15.out.mono ?_
    rintro e w15 ⟨rfl, rfl⟩
    go_wp2_with fail
    go_ret
    exact ⟨rfl, HB14.out⟩
end Go.Proofs.Ytlmciomoimfajaa
