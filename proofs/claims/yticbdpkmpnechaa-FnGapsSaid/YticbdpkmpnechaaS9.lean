/- Contracts of ReturnTimes in the program and in the reference. Conditions: none beyond int64 arguments. -/
import Derived.Test.YticbdpkmpnechaaS7
import Derived.Test.YticbdpkmpnechaaS1
import Derived.Test.YticbdpkmpnechaaA2
namespace Go.Proofs.Yticbdpkmpnechaa
open Go.RowKit Go.Sort
set_option linter.unusedVariables false

theorem rtGo_pos (p q lo hi fr : Int) : ∀ (n : Nat) (i : Int), 1 ≤ i → rtGo p q lo hi fr n i = -1 ∨ 1 ≤ rtGo p q lo hi fr n i
  | 0, i, _ => .inl rfl
  | n + 1, i, h => by
    unfold rtGo
    split
    · exact .inr h
    · exact rtGo_pos p q lo hi fr n (i + 1) (by omega)
theorem rt_pos (p q lo hi fr : Int) : retTime p q lo hi fr = -1 ∨ 1 ≤ retTime p q lo hi fr := by
  unfold retTime; split
  · exact rtGo_pos _ _ _ _ _ _ _ (by omega)
  · exact .inl rfl
/-- the return times of the first k points of the arc -/
def rtL (p q lo hi : Int) : Nat → List Int
  | 0 => []
  | k + 1 => rtL p q lo hi k ++ if 0 < retTime p q lo hi (lo + k) then [retTime p q lo hi (lo + k)] else []
theorem rtL_len (p q lo hi : Int) : ∀ k, (rtL p q lo hi k).length ≤ k
  | 0 => Nat.le_refl _
  | k + 1 => by have := rtL_len p q lo hi k; unfold rtL; rw [List.length_append]; split <;> simp <;> omega
theorem rtL_yes {p q lo hi r : Int} {k : Nat} (hr : r = retTime p q lo hi (lo + k)) (h : 0 < r) : rtL p q lo hi (k + 1) = rtL p q lo hi k ++ [r] := by
  rw [rtL, ← hr, if_pos h]
theorem rtL_no {p q lo hi r : Int} {k : Nat} (hr : r = retTime p q lo hi (lo + k)) (h : ¬ 0 < r) : rtL p q lo hi (k + 1) = rtL p q lo hi k := by
  rw [rtL, ← hr, if_neg h, List.append_nil]
def rtsOk (p q lo hi : Int) : Bool := arcOk p q lo hi && decide (lo ≤ hi)
theorem rtsOk_iff {p q lo hi : Int} : rtsOk p q lo hi = true ↔ 1 ≤ q ∧ q ≤ 1000 ∧ 0 ≤ p ∧ p ≤ q - 1 ∧ 0 ≤ lo ∧ lo ≤ hi ∧ hi ≤ q - 1 := by
  unfold rtsOk arcOk
  simp only [Bool.and_eq_true, inB_iff, decide_eq_true_eq]
  omega
def rtsW (p q lo hi : Int) : List Int := if rtsOk p q lo hi = true then uniq (rtL p q lo hi (hi + 1 - lo).toNat) else []
theorem rtsW_len (p q lo hi : Int) : (rtsW p q lo hi).length ≤ 1000 := by
  unfold rtsW; split
  · rename_i h
    have := rtsOk_iff.1 h
    have h1 := uniq_len (rtL p q lo hi (hi + 1 - lo).toNat)
    have h2 := rtL_len p q lo hi (hi + 1 - lo).toNat
    omega
  · simp

set_option maxHeartbeats 2000000 in
theorem returnTimes_s (p q lo hi : Int) (w : World) :
    Calls Try.prog 24 #[.int .i64 p, .int .i64 q, .int .i64 lo, .int .i64 hi] w (RetI (rtsW p q lo hi) w) := by
  have ha := fun W => Lib.hid (l11Arc_c p q lo hi W)
  cases hok : rtsOk p q lo hi
  · have hr : Hid (rtsW p q lo hi = []) := by simp [rtsW, hok, Hid]
    cases hac : arcOk p q lo hi
    · rw [hac] at ha
      clear hok hac
      go_enter Try.func24, Try.ntmps24
      go_wp2_with fail
      refine (ha _).out.mono ?_
      rintro e w' ⟨rfl, rfl⟩
      go_wp2_with fail
      go_ret
      exact retI_nil _ _ _ hr.out (Below.refl _ _)
    · have hgt : decide (lo > hi) = true := by
        unfold rtsOk at hok; rw [hac, Bool.true_and, decide_eq_false_iff_not] at hok; exact decide_eq_true (by omega)
      rw [hac] at ha
      clear hok hac
      go_enter Try.func24, Try.ntmps24
      go_wp2_with fail
      refine (ha _).out.mono ?_
      rintro e w' ⟨rfl, rfl⟩
      go_wp2_with fail
      go_ret
      exact retI_nil _ _ _ hr.out (Below.refl _ _)
  · have hb := rtsOk_iff.1 hok
    have hac : arcOk p q lo hi = true := by unfold rtsOk at hok; simp at hok; exact hok.1
    have hgt : decide (lo > hi) = false := decide_eq_false (by omega)
    rw [hac] at ha
    obtain ⟨N, hN⟩ : ∃ N : Nat, N = (hi + 1 - lo).toNat := ⟨_, rfl⟩
    have hNi : (N : Int) = hi + 1 - lo := by omega
    have hr : Hid (rtsW p q lo hi = insAllI [] (rtL p q lo hi N)) := by unfold Hid rtsW; rw [if_pos hok, ← hN]; exact uniq_ins _
    have hrt := fun fr W => Lib.hid (returnTime_s p q lo hi fr W)
    have hpos := Lib.hid (rt_pos p q lo hi)
    have hst0 : Hid (OwnI (w.alloc (.cells #[] 3)) w.heap.size (.slice (some ⟨w.heap.size, 0, none⟩) 0 0) []) := ownI_empty w (Nat.le_refl _)
    clear hok hac hN
    go_enter Try.func24, Try.ntmps24
    go_wp2_with fail
    refine (ha _).out.mono ?_
    rintro e w' ⟨rfl, rfl⟩
    go_wp2_with fail
    go_loopw [9, 10] (fun o i wr => ∃ (k g' cap' : Nat), k ≤ N ∧ i = .int .i64 (lo + k) ∧ o = .slice (some ⟨g', 0, none⟩) (insAllI [] (rtL p q lo hi k)).length cap' ∧ Hid (OwnI wr w.heap.size (.slice (some ⟨g', 0, none⟩) (insAllI [] (rtL p q lo hi k)).length cap') (insAllI [] (rtL p q lo hi k))) ∧ Below w.heap.size w wr) (fun _ i _ => (hi + 1 - intOf i).toNat)
    case atStart => exact ⟨0, w.heap.size, 0, by omega, by simp, rfl, hst0, (Below.refl _ _).alloc (Nat.le_refl _) _⟩
    case round =>
      obtain ⟨k, g', cap', hk, rfl, rfl, hown, hbw⟩ := hrel
      have hsz := hbw.size
      have hil := insAllI_len [] (rtL p q lo hi k)
      have htl := rtL_len p q lo hi k
      rw [List.length_nil] at hil
      by_cases hlt : k < N
      · obtain ⟨r, hrr⟩ : ∃ r, r = retTime p q lo hi (lo + k) := ⟨_, rfl⟩
        have hcall := Lib.hid (returnTime_s p q lo hi (lo + k) wr)
        have hp1 := hpos.out (lo + k)
        rw [← hrr] at hp1 hcall
        have b1 : decide (lo + (k : Int) ≤ hi) = true := decide_eq_true (by omega)
        have e1 : IntKind.i64.wrap (lo + (k : Int) + 1) = lo + (k : Int) + 1 := IntWalk.i64_in _ (by omega)
        by_cases h0 : 0 < r
        · have hnx : Hid (insAllI [] (rtL p q lo hi (k + 1)) = insI (insAllI [] (rtL p q lo hi k)) r) := by unfold Hid; rw [rtL_yes hrr h0, insAllI_snoc]
          obtain ⟨acc, hacc⟩ : ∃ acc, acc = insAllI [] (rtL p q lo hi k) := ⟨_, rfl⟩
          rw [← hacc] at hnx hown hil ⊢
          clear hacc hrr
          have hins := Lib.hid (l11Insert_c g' cap' w.heap.size acc r wr hown.out (by omega) hsz)
          have b2 : decide (r > 0) = true := decide_eq_true h0
          go_wp2_with fail
          refine hcall.out.mono ?_
          rintro e w2 ⟨rfl, rfl⟩
          go_wp2_with fail
          refine hins.out.mono ?_
          rintro e w2 ⟨g2, cap2, rfl, ho2, hb2⟩
          have HO2 := Lib.hid ho2
          clear ho2
          go_wp2_with fail
          go_roundw
          case rel => exact ⟨k + 1, g2, cap2, by omega, by go_num, by rw [hnx.out], by rw [hnx.out]; exact HO2.out, hbw.trans (hb2.mono hsz)⟩
          case measure => simp [intOf] <;> omega
        · have hnx := Lib.hid (rtL_no hrr h0)
          have b2 : decide (r > 0) = false := decide_eq_false h0
          clear hrr
          go_wp2_with fail
          refine hcall.out.mono ?_
          rintro e w2 ⟨rfl, rfl⟩
          go_wp2_with fail
          go_roundw
          case rel => exact ⟨k + 1, g', cap', by omega, by go_num, by rw [hnx.out], by rw [hnx.out]; exact hown, hbw⟩
          case measure => simp [intOf] <;> omega
      · obtain rfl : k = N := by omega
        have b1 : decide (lo + (k : Int) ≤ hi) = false := decide_eq_false (by omega)
        have hfin : Hid (OwnI wr w.heap.size (.slice (some ⟨g', 0, none⟩) (insAllI [] (rtL p q lo hi k)).length cap') (rtsW p q lo hi)) := by rw [hr.out]; exact hown.out
        go_wp2
        go_ret
        exact ⟨_, rfl, hfin.out, hbw⟩

set_option maxHeartbeats 2000000 in
theorem returnTimes_i (p q lo hi : Int) (w : World) :
    Calls Try.prog 25 #[.int .i64 p, .int .i64 q, .int .i64 lo, .int .i64 hi] w (RetI (rtsW p q lo hi) w) := by
  cases hok : rtsOk p q lo hi
  · have hr : Hid (rtsW p q lo hi = []) := by simp [rtsW, hok, Hid]
    have hno : inB q 1 1000 = true → inB p 0 (q - 1) = true → inB lo 0 (q - 1) = true → (!inB hi lo (q - 1)) = false → False := fun a b c d => by
      simp only [Bool.not_eq_false'] at d
      have a' := inB_iff.1 a
      have b' := inB_iff.1 b
      have c' := inB_iff.1 c
      have d' := inB_iff.1 d
      have := rtsOk_iff (p := p) (q := q) (lo := lo) (hi := hi)
      rw [hok] at this
      exact absurd (this.2 (by omega)) (by decide)
    clear hok
    by_cases h1 : inB q 1 1000 = true
    · have h1' := inB_iff.1 h1
      go_enter Try.func25, Try.ntmps25
      go_wp2_with ((go_at_call 57; refine (within_c _ _ _ _).mono ?_; rintro e w' ⟨rfl, rfl⟩))
      all_goals first | exact (hno h1 (by assumption) (by assumption) (by assumption)).elim | (go_ret; exact retI_nil _ _ _ hr.out (Below.refl _ _))
    · go_enter Try.func25, Try.ntmps25
      go_wp2_with ((go_at_call 57; refine (within_c _ _ _ _).mono ?_; rintro e w' ⟨rfl, rfl⟩))
      all_goals (go_ret; exact retI_nil _ _ _ hr.out (Below.refl _ _))
  · have hb := rtsOk_iff.1 hok
    have h1 : inB q 1 1000 = true := inB_iff.2 (by omega)
    have h2 : inB p 0 (q - 1) = true := inB_iff.2 (by omega)
    have h3 : inB lo 0 (q - 1) = true := inB_iff.2 (by omega)
    have h4 : inB hi lo (q - 1) = true := inB_iff.2 (by omega)
    obtain ⟨N, hN⟩ : ∃ N : Nat, N = (hi + 1 - lo).toNat := ⟨_, rfl⟩
    have hNi : (N : Int) = hi + 1 - lo := by omega
    have hr : Hid (rtsW p q lo hi = Lib.compact (sortI (rtL p q lo hi N))) := by unfold Hid rtsW; rw [if_pos hok, ← hN]; rfl
    have hpos := Lib.hid (rt_pos p q lo hi)
    have hst0 : Hid (OwnI (w.alloc (.cells #[] 3)) w.heap.size (.slice (some ⟨w.heap.size, 0, none⟩) 0 0) []) := ownI_empty w (Nat.le_refl _)
    clear hok hN
    go_enter Try.func25, Try.ntmps25
    go_wp2_with ((go_at_call 57; refine (within_c _ _ _ _).mono ?_; rintro e w' ⟨rfl, rfl⟩))
    go_loopw [9, 10] (fun o i wr => ∃ (k : Nat) (v : Value), k ≤ N ∧ i = .int .i64 (lo + k) ∧ v = o ∧ Hid (OwnI wr w.heap.size v (rtL p q lo hi k)) ∧ Below w.heap.size w wr) (fun _ i _ => (hi + 1 - intOf i).toNat)
    case atStart => exact ⟨0, _, by omega, by simp, rfl, hst0, (Below.refl _ _).alloc (Nat.le_refl _) _⟩
    case round =>
      obtain ⟨k, v, hk, rfl, rfl, hown, hbw⟩ := hrel
      have hsz := hbw.size
      have htl := rtL_len p q lo hi k
      by_cases hlt : k < N
      · obtain ⟨r, hrr⟩ : ∃ r, r = retTime p q lo hi (lo + k) := ⟨_, rfl⟩
        have hcall := Lib.hid (returnTime_i p q lo hi (lo + k) wr)
        have hp1 := hpos.out (lo + k)
        rw [← hrr] at hp1 hcall
        have b1 : decide (lo + (k : Int) ≤ hi) = true := decide_eq_true (by omega)
        have e1 : IntKind.i64.wrap (lo + (k : Int) + 1) = lo + (k : Int) + 1 := IntWalk.i64_in _ (by omega)
        by_cases h0 : 0 < r
        · have hnx := Lib.hid (rtL_yes hrr h0)
          have b2 : decide (r ≥ 0) = true := decide_eq_true (by omega)
          clear hrr
          go_wp2_with fail
          refine hcall.out.mono ?_
          rintro e w2 ⟨rfl, rfl⟩
          go_wp2_with (at_builtin; refine appI rfl _ _ rfl w.heap.size _ (rtL p q lo hi k) rfl (by exact hown.out) _ rfl (by omega) (by exact hsz) ?_; intro v' w' hown' hg')
          go_roundw
          case rel => exact ⟨k + 1, v', by omega, by go_num, rfl, by rw [hnx.out]; exact hown', below_app hbw hown.out hg' hsz⟩
          case measure => simp [intOf] <;> omega
        · have hnx := Lib.hid (rtL_no hrr h0)
          have b2 : decide (r ≥ 0) = false := decide_eq_false (by omega)
          clear hrr
          go_wp2_with fail
          refine hcall.out.mono ?_
          rintro e w2 ⟨rfl, rfl⟩
          go_wp2_with fail
          go_roundw
          case rel => exact ⟨k + 1, v, by omega, by go_num, rfl, by rw [hnx.out]; exact hown, hbw⟩
          case measure => simp [intOf] <;> omega
      · obtain rfl : k = N := by omega
        have b1 : decide (lo + (k : Int) ≤ hi) = false := decide_eq_false (by omega)
        go_wp2_with fail
        refine (sortI_c v _ _ _ hown.out (by omega)).mono ?_
        rintro e w2 ⟨rfl, ho1, hg1⟩
        have HO1 := Lib.hid ho1
        have hb1 := below_app hbw hown.out hg1 hsz
        have HB1 := Lib.hid hb1
        have hs2 := hb1.size
        have hl1 := sortI_len (rtL p q lo hi k)
        clear ho1 hg1 hb1
        go_wp2_with fail
        refine (compactI_c v _ _ _ HO1.out (by omega)).mono ?_
        rintro e w3 ⟨v', rfl, ho2, hg2, -⟩
        have HO2 := Lib.hid ho2
        have HB2 := Lib.hid (below_app HB1.out HO1.out hg2 hs2)
        clear ho2 hg2
        go_wp2_with fail
        go_ret
        exact ⟨_, rfl, by rw [hr.out]; exact HO2.out, HB2.out⟩
end Go.Proofs.Yticbdpkmpnechaa
