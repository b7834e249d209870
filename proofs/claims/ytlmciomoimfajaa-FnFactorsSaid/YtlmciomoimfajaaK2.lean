/- Contracts of areQuotients, convergents, ConvergentsOf, FractionOf in the program, of l12Quotients, FractionOf, ConvergentsOf in the reference. Conditions: a row of numbers that can be read. -/
import Derived.Test.YtlmciomoimfajaaK1
namespace Go.Proofs.Ytlmciomoimfajaa
open Go.RowKit
set_option linter.unusedVariables false

theorem rdI_shapeK {w : World} {v : Value} {L : List Int} (hrd : RdI w v L) : ∃ ga cc, v = .slice ga L.length cc ∧ ∀ (k : Nat) x, L[k]? = some x → ∃ g, ga = some ⟨g, 0, none⟩ ∧ w.cell? ⟨g, k, none⟩ = some (.int .i64 x) ∧ L.length ≤ cc := by
  rcases hrd with ⟨rfl, h0⟩ | ⟨g, cap, rfl, hcap, hc⟩
  · exact ⟨none, 0, by rw [h0]; rfl, fun k x hk => by rw [h0] at hk; simp at hk⟩
  · exact ⟨_, _, rfl, fun k x hk => ⟨g, rfl, hc k x hk, hcap⟩⟩

set_option maxHeartbeats 2000000 in
theorem areQuotients_c (v : Value) (ks : List Int) (w : World) (hrd : RdI w v ks) (hl : ks.length ≤ 1048576) :
    Calls Try.prog 101 #[v] w fun e w' => e = .returned (.bool (cfOk ks)) ∧ w = w' := by
  obtain ⟨ga, cc, rfl, hcell⟩ := rdI_shapeK hrd
  have HC := Lib.hid hcell
  obtain ⟨N, hN⟩ : ∃ N, N = ks.length := ⟨_, rfl⟩
  have HN := Lib.hid hN
  have hr : Hid (cfOk ks = (inB (N : Int) 1 20 && cfAll 0 ks)) := by rw [hN]; rfl
  have hst : Hid (cfAll 0 (ks.drop 0) = cfAll 0 ks) := rfl
  have hwl := fun W => Lib.hid (within_c (N : Int) 1 20 W)
  rw [← hN] at hl ⊢
  clear hcell hrd hN
  go_enter Try.func101, Try.ntmps101
  go_wp2
  go_loop [7] (fun z => ∃ k : Nat, z = .int .i64 k ∧ k ≤ N ∧ Hid (cfAll k (ks.drop k) = cfAll 0 ks)) (fun z => N - (intOf z).toNat)
  case atStart => exact ⟨0, rfl, by omega, hst⟩
  case round =>
    obtain ⟨k, rfl, hk, hb⟩ := hrel
    by_cases hlk : k < N
    · obtain ⟨x, hx⟩ : ∃ x, ks[k]? = some x := ⟨_, List.getElem?_eq_getElem (by rw [← HN.out]; exact hlk)⟩
      obtain ⟨g, rfl, cx, hcap⟩ := HC.out k x hx
      rw [← HN.out] at hcap
      have b1 : (k : Int) < (N : Int) := by omega
      have hdr := Lib.hid (cfAll_drop hx)
      have hwi := fun W => Lib.hid (within_c x (mnI k) 1000 W)
      clear hx
      cases hin : inB x (mnI k) 1000
      · rw [hin] at hwi hdr
        have hfin : Hid (cfOk ks = false) := by unfold Hid; rw [hr.out, ← hb.out, hdr.out]; simp
        by_cases k0 : k = 0
        · subst k0
          have hm : mnI 0 = 0 := rfl
          rw [hm] at hwi
          go_wp2_with fail
          refine (hwi _).out.mono ?_
          rintro e w' ⟨rfl, rfl⟩
          go_wp2_with fail
          go_ret
          exact ⟨ret_bool hfin.out.symm, rfl⟩
        · have hm : mnI k = 1 := by unfold mnI; rw [if_neg k0]
          rw [hm] at hwi
          have b2 : (1 : Int) ≤ (k : Int) := by omega
          go_wp2_with fail
          · refine (hwi _).out.mono ?_
            rintro e w' ⟨rfl, rfl⟩
            go_wp2_with fail
            go_ret
            exact ⟨ret_bool hfin.out.symm, rfl⟩
          · have hk1 : k = 1 := by omega
            subst hk1
            refine (hwi _).out.mono ?_
            rintro e w' ⟨rfl, rfl⟩
            go_wp2_with fail
            go_ret
            exact ⟨ret_bool hfin.out.symm, rfl⟩
      · rw [hin] at hwi hdr
        have hnx : Hid (cfAll (k + 1) (ks.drop (k + 1)) = cfAll 0 ks) := by unfold Hid; rw [← hb.out, hdr.out]; rfl
        by_cases k0 : k = 0
        · subst k0
          have hm : mnI 0 = 0 := rfl
          rw [hm] at hwi
          go_wp2_with fail
          refine (hwi _).out.mono ?_
          rintro e w' ⟨rfl, rfl⟩
          go_wp2_with fail
          go_round
          case rel => exact ⟨1, by go_num, by omega, hnx⟩
          case measure => simp [intOf] <;> omega
        · have hm : mnI k = 1 := by unfold mnI; rw [if_neg k0]
          rw [hm] at hwi
          have b2 : (1 : Int) ≤ (k : Int) := by omega
          go_wp2_with fail
          · refine (hwi _).out.mono ?_
            rintro e w' ⟨rfl, rfl⟩
            go_wp2_with fail
            go_round
            case rel => exact ⟨k + 1, by go_num, by omega, hnx⟩
            case measure => simp [intOf] <;> omega
          · have hk1 : k = 1 := by omega
            subst hk1
            refine (hwi _).out.mono ?_
            rintro e w' ⟨rfl, rfl⟩
            go_wp2_with fail
            go_round
            case rel => exact ⟨2, by go_num, by omega, hnx⟩
            case measure => simp [intOf] <;> omega
    · obtain rfl : k = N := by omega
      have hfin : Hid (cfOk ks = inB (k : Int) 1 20) := by
        have := hb.out
        rw [List.drop_of_length_le (by rw [← HN.out]; exact Nat.le_refl _)] at this
        unfold Hid; rw [hr.out, ← this]; simp [cfAll]
      go_wp2_with fail
      refine (hwl _).out.mono ?_
      rintro e w' ⟨rfl, rfl⟩
      go_wp2_with fail
      go_ret
      exact ⟨ret_bool hfin.out.symm, rfl⟩

set_option maxHeartbeats 2000000 in
theorem l12Quotients_c (v : Value) (ks : List Int) (w : World) (hrd : RdI w v ks) (hl : ks.length ≤ 1048576) :
    Calls Try.prog 100 #[v] w fun e w' => e = .returned (.bool (cfOk ks)) ∧ w = w' := by
  obtain ⟨ga, cc, rfl, hcell⟩ := rdI_shapeK hrd
  have HC := Lib.hid hcell
  obtain ⟨N, hN⟩ : ∃ N, N = ks.length := ⟨_, rfl⟩
  have HN := Lib.hid hN
  have hr : Hid (cfOk ks = (inB (N : Int) 1 20 && cfAll 0 ks)) := by rw [hN]; rfl
  have hst : Hid (cfAll 0 (ks.drop 0) = cfAll 0 ks) := rfl
  have hwl := fun W => Lib.hid (l01In_c (N : Int) 1 20 W)
  rw [← hN] at hl ⊢
  clear hcell hrd hN
  cases hin0 : inB (N : Int) 1 20
  · rw [hin0] at hwl hr
    go_enter Try.func100, Try.ntmps100
    go_wp2_with fail
    refine (hwl _).out.mono ?_
    rintro e w' ⟨rfl, rfl⟩
    go_wp2_with fail
    go_ret
    exact ⟨ret_bool hr.out.symm, rfl⟩
  rw [hin0] at hwl hr
  clear hin0
  go_enter Try.func100, Try.ntmps100
  go_wp2_with fail
  refine (hwl _).out.mono ?_
  rintro e w' ⟨rfl, rfl⟩
  go_wp2_with fail
  go_loop [11] (fun z => ∃ k : Nat, z = .int .i64 k ∧ k ≤ N ∧ Hid (cfAll k (ks.drop k) = cfAll 0 ks)) (fun z => N - (intOf z).toNat)
  case atStart => exact ⟨0, rfl, by omega, hst⟩
  case round =>
    obtain ⟨k, rfl, hk, hb⟩ := hrel
    by_cases hlk : k < N
    · obtain ⟨x, hx⟩ : ∃ x, ks[k]? = some x := ⟨_, List.getElem?_eq_getElem (by rw [← HN.out]; exact hlk)⟩
      obtain ⟨g, rfl, cx, hcap⟩ := HC.out k x hx
      rw [← HN.out] at hcap
      have b1 : (k : Int) < (N : Int) := by omega
      have hdr := Lib.hid (cfAll_drop hx)
      have hwi := fun W => Lib.hid (l01In_c x (mnI k) 1000 W)
      clear hx
      cases hin : inB x (mnI k) 1000
      · rw [hin] at hwi hdr
        have hfin : Hid (cfOk ks = false) := by unfold Hid; rw [hr.out, ← hb.out, hdr.out]; simp
        by_cases k0 : k = 0
        · subst k0
          have hm : mnI 0 = 0 := rfl
          rw [hm] at hwi
          go_wp2_with fail
          refine (hwi _).out.mono ?_
          rintro e w' ⟨rfl, rfl⟩
          go_wp2_with fail
          go_ret
          exact ⟨ret_bool hfin.out.symm, rfl⟩
        · have hm : mnI k = 1 := by unfold mnI; rw [if_neg k0]
          rw [hm] at hwi
          have b2 : (1 : Int) ≤ (k : Int) := by omega
          go_wp2_with fail
          · refine (hwi _).out.mono ?_
            rintro e w' ⟨rfl, rfl⟩
            go_wp2_with fail
            go_ret
            exact ⟨ret_bool hfin.out.symm, rfl⟩
          · have hk1 : k = 1 := by omega
            subst hk1
            refine (hwi _).out.mono ?_
            rintro e w' ⟨rfl, rfl⟩
            go_wp2_with fail
            go_ret
            exact ⟨ret_bool hfin.out.symm, rfl⟩
      · rw [hin] at hwi hdr
        have hnx : Hid (cfAll (k + 1) (ks.drop (k + 1)) = cfAll 0 ks) := by unfold Hid; rw [← hb.out, hdr.out]; rfl
        by_cases k0 : k = 0
        · subst k0
          have hm : mnI 0 = 0 := rfl
          rw [hm] at hwi
          go_wp2_with fail
          refine (hwi _).out.mono ?_
          rintro e w' ⟨rfl, rfl⟩
          go_wp2_with fail
          go_round
          case rel => exact ⟨1, by go_num, by omega, hnx⟩
          case measure => simp [intOf] <;> omega
        · have hm : mnI k = 1 := by unfold mnI; rw [if_neg k0]
          rw [hm] at hwi
          have b2 : (1 : Int) ≤ (k : Int) := by omega
          go_wp2_with fail
          · refine (hwi _).out.mono ?_
            rintro e w' ⟨rfl, rfl⟩
            go_wp2_with fail
            go_round
            case rel => exact ⟨k + 1, by go_num, by omega, hnx⟩
            case measure => simp [intOf] <;> omega
          · have hk1 : k = 1 := by omega
            subst hk1
            refine (hwi _).out.mono ?_
            rintro e w' ⟨rfl, rfl⟩
            go_wp2_with fail
            go_round
            case rel => exact ⟨2, by go_num, by omega, hnx⟩
            case measure => simp [intOf] <;> omega
    · obtain rfl : k = N := by omega
      have hfin : Hid (cfOk ks = true) := by
        have := hb.out
        rw [List.drop_of_length_le (by rw [← HN.out]; exact Nat.le_refl _)] at this
        unfold Hid; rw [hr.out, ← this]; rfl
      go_wp2_with fail
      go_ret
      exact ⟨ret_bool hfin.out.symm, rfl⟩
end Go.Proofs.Ytlmciomoimfajaa
