/- Contracts of ShiftWord, LeastShift, IsLyndon in the program and in the reference. Conditions: strings of at most 2^30 bytes. -/
import Derived.Test.YtlmciomoimfajaaB6
import Derived.Test.YtlmciomoimfajaaB9
namespace Go.Proofs.Ytlmciomoimfajaa
open Go.RowKit
set_option linter.unusedVariables false

/-- a word turned round by k letters -/
def rotS (s : ByteArray) (k : Nat) : ByteArray := St (s.data.toList.drop k ++ s.data.toList.take k)
theorem rot_eq (s : ByteArray) (k : Nat) : s.extract k s.size ++ s.extract 0 k = rotS s k := by
  apply str_inj
  rw [rotS, St_data, ByteArray.data_append, Array.toList_append, ext_data, ext_data, Nat.sub_zero, List.drop_zero]
  congr 1
  rw [List.take_of_length_le (by rw [List.length_drop, ← size_len]; exact Nat.le_refl _)]

set_option maxHeartbeats 1000000 in
theorem shiftWord_c (s : ByteArray) (k : Nat) (w : World) (hw : wordL s.data.toList = true) (hk : k ≤ s.size) :
    Calls Try.prog 18 #[.string s, .int .i64 (k : Int)] w fun e w' => e = .returned (.string (rotS s k)) ∧ ∃ d, w' = w.drewN d := by
  have hs := wordL_size hw
  have hin : inB k 0 s.size = true := inB_iff.2 (by omega)
  have b1 : (k : Int) ≤ (s.size : Int) := by omega
  have z1 := ext_size s k s.size (Nat.le_refl _) hk
  have z2 := ext_size s 0 k hk (Nat.zero_le _)
  have hR := Lib.hid (rot_eq s k)
  go_enter Try.func18, Try.ntmps18
  go_wp2_with (first | (go_at_call 85; refine (isWord_c _ _ (by unfold maxLen; omega)).mono ?_; rintro e w' ⟨rfl, rfl⟩) | (go_at_call 88; refine (within_c _ _ _ _).mono ?_; rintro e w' ⟨rfl, rfl⟩))
  go_quiet (fail)
  go_wp2
  go_ret
  exact ⟨ret_str hR.out, _, rfl⟩

/-- is a string before another one, or the same -/
def ltB (a b : ByteArray) : Bool := Op.bytesLess a.toList b.toList
def leB (a b : ByteArray) : Bool := Op.bytesLess a.toList b.toList || a.toList == b.toList
theorem leB_or {a b : ByteArray} (h : Op.bytesLess a.toList b.toList = true ∨ (a.toList == b.toList) = true) : leB a b = true := by unfold leB; rw [Bool.or_eq_true]; exact h
theorem leB_and {a b : ByteArray} (h : Op.bytesLess a.toList b.toList = false ∧ (a.toList == b.toList) = false) : leB a b = false := by unfold leB; rw [h.1, h.2]; rfl
def lsGo (s : ByteArray) : Nat → Nat
  | 0 => 0
  | k + 1 => if ltB (rotS s k) (rotS s (lsGo s k)) = true then k else lsGo s k
theorem lsGo_le (s : ByteArray) : ∀ k, lsGo s k ≤ k
  | 0 => Nat.le_refl _
  | k + 1 => by have := lsGo_le s k; unfold lsGo; split <;> omega
theorem lsGo_yes {s : ByteArray} {k b : Nat} (hb : b = lsGo s k) (h : ltB (rotS s k) (rotS s b) = true) : Hid (k = lsGo s (k + 1)) := by
  unfold Hid; rw [lsGo, ← hb, if_pos h]
theorem lsGo_no {s : ByteArray} {k b : Nat} (hb : b = lsGo s k) (h : ltB (rotS s k) (rotS s b) = false) : Hid (b = lsGo s (k + 1)) := by
  unfold Hid; rw [lsGo, ← hb, if_neg (by simp [h])]
def lsW (s : ByteArray) : Int := if rootOk s = true then ((lsGo s s.size : Nat) : Int) else -1
/-- no turn of the word by 1 .. k - 1 letters is before it or the same -/
def lyTo (s : ByteArray) (k : Nat) : Prop := ∀ j, 1 ≤ j → j < k → leB (rotS s j) s = false
noncomputable def lyW (s : ByteArray) : Bool := rootOk s && cB (lyTo s s.size)
theorem lyTo_one (s : ByteArray) : lyTo s 1 := fun j a b => by omega
theorem lyTo_succ {s : ByteArray} {k : Nat} (h : lyTo s k) (hk : leB (rotS s k) s = false) : lyTo s (k + 1) := by
  intro j a b
  rcases Nat.lt_succ_iff_lt_or_eq.1 b with b | rfl
  · exact h j a b
  · exact hk
theorem ly_no {s : ByteArray} {k : Nat} (h1 : 1 ≤ k) (hk : k < s.size) (h : leB (rotS s k) s = true) : lyW s = false := by
  unfold lyW
  rw [cB_false (fun hl => by rw [hl k h1 hk] at h; cases h), Bool.and_false]
theorem ly_yes {s : ByteArray} {k : Nat} (hok : rootOk s = true) (h : lyTo s k) (hk : s.size ≤ k) : lyW s = true := by
  unfold lyW
  have h' : lyTo s s.size := fun j a b => h j a (by omega)
  rw [hok, cB_true h', Bool.and_true]
theorem size_of_ok {s : ByteArray} (he : s.toList.isEmpty = false) : 1 ≤ s.size := by
  rcases Nat.eq_zero_or_pos s.size with h | h
  · rw [(isEmpty_iff s).2 h] at he; cases he
  · exact h

set_option maxHeartbeats 1000000 in
theorem leastShift_i (s : ByteArray) (w : World) (hs : s.size ≤ 1073741000) :
    Calls Try.prog 35 #[.string s] w fun e w' => e = .returned (.int .i64 (lsW s)) ∧ Below w.heap.size w w' := by
  cases hw : wordL s.data.toList
  · have r1 : Hid (lsW s = -1) := by simp [lsW, rootOk, hw, Hid]
    go_enter Try.func35, Try.ntmps35
    go_wp2_with (go_at_call 85; refine (isWord_c _ _ (by unfold maxLen; omega)).mono ?_; rintro e w' ⟨rfl, rfl⟩)
    go_ret
    exact ⟨ret_int r1.out.symm, Below.refl _ _⟩
  · cases he : s.toList.isEmpty
    · have hsz := size_of_ok he
      have hok : Hid (rootOk s = true) := by simp [rootOk, hw, he, Hid]
      have HW := Lib.hid hw
      have r1 : Hid (lsW s = ((lsGo s s.size : Nat) : Int)) := by simp [lsW, hok.out, Hid]
      go_enter Try.func35, Try.ntmps35
      go_wp2_with (go_at_call 85; refine (isWord_c _ _ (by unfold maxLen; omega)).mono ?_; rintro e w' ⟨rfl, rfl⟩)
      go_loopw [3, 14] (fun a i wr => ∃ k b d : Nat, k ≤ s.size ∧ i = .int .i64 k ∧ a = .int .i64 b ∧ Hid (b = lsGo s k) ∧ wr = w.drewN d) (fun _ i _ => s.size - (intOf i).toNat)
      case atStart => exact ⟨0, 0, 0, Nat.zero_le _, rfl, rfl, rfl, rfl⟩
      case round =>
        obtain ⟨k, b, d, hk, rfl, rfl, hb, rfl⟩ := hrel
        have hbk : b ≤ k := by rw [hb.out]; exact lsGo_le _ _
        by_cases hlt : k < s.size
        · have hc1 := fun W => Lib.hid (shiftWord_c s k W HW.out (by omega))
          have hc2 := fun W => Lib.hid (shiftWord_c s b W HW.out (by omega))
          go_wp2_with fail
          refine (hc1 _).out.mono ?_
          rintro e w' ⟨rfl, d1, rfl⟩
          go_wp2_with fail
          refine (hc2 _).out.mono ?_
          rintro e w' ⟨rfl, d2, rfl⟩
          go_wp2
          · go_roundw
            case rel => exact ⟨k + 1, k, _, by omega, by go_num, rfl, lsGo_yes hb.out (by assumption), rfl⟩
            case measure => simp [intOf] <;> omega
          · go_roundw
            case rel => exact ⟨k + 1, b, _, by omega, by go_num, rfl, lsGo_no hb.out (by assumption), rfl⟩
            case measure => simp [intOf] <;> omega
        · have hks : k = s.size := by omega
          have hfin : Hid ((b : Int) = lsW s) := by rw [r1.out, hb.out, hks]; rfl
          clear hks
          go_wp2
          go_ret
          exact ⟨ret_int hfin.out, below_drewN (Below.refl _ _) _⟩
    · have r1 : Hid (lsW s = -1) := by simp [lsW, rootOk, he, Hid]
      go_enter Try.func35, Try.ntmps35
      go_wp2_with (go_at_call 85; refine (isWord_c _ _ (by unfold maxLen; omega)).mono ?_; rintro e w' ⟨rfl, rfl⟩)
      go_ret
      exact ⟨ret_int r1.out.symm, Below.refl _ _⟩
set_option maxHeartbeats 1000000 in
theorem isLyndon_i (s : ByteArray) (w : World) (hs : s.size ≤ 1073741000) :
    Calls Try.prog 34 #[.string s] w fun e w' => e = .returned (.bool (lyW s)) ∧ Below w.heap.size w w' := by
  cases hw : wordL s.data.toList
  · have r1 : Hid (lyW s = false) := by simp [lyW, rootOk, hw, Hid]
    go_enter Try.func34, Try.ntmps34
    go_wp2_with (go_at_call 85; refine (isWord_c _ _ (by unfold maxLen; omega)).mono ?_; rintro e w' ⟨rfl, rfl⟩)
    go_ret
    exact ⟨ret_bool r1.out.symm, Below.refl _ _⟩
  · cases he : s.toList.isEmpty
    · have hsz := size_of_ok he
      have hok : Hid (rootOk s = true) := by simp [rootOk, hw, he, Hid]
      have HW := Lib.hid hw
      go_enter Try.func34, Try.ntmps34
      go_wp2_with (go_at_call 85; refine (isWord_c _ _ (by unfold maxLen; omega)).mono ?_; rintro e w' ⟨rfl, rfl⟩)
      go_loopw [3] (fun i wr => ∃ k d : Nat, 1 ≤ k ∧ k ≤ s.size ∧ i = .int .i64 k ∧ Hid (lyTo s k) ∧ wr = w.drewN d) (fun i _ => s.size - (intOf i).toNat)
      case atStart => exact ⟨1, 0, by omega, by omega, rfl, lyTo_one s, rfl⟩
      case round =>
        obtain ⟨k, d, hk1, hk, rfl, hl, rfl⟩ := hrel
        by_cases hlt : k < s.size
        · skip
          have hc1 := fun W => Lib.hid (shiftWord_c s k W HW.out (by omega))
          go_wp2_with fail
          refine (hc1 _).out.mono ?_
          rintro e w' ⟨rfl, d1, rfl⟩
          go_wp2
          · have ho : Op.bytesLess (rotS s k).toList s.toList = true ∨ ((rotS s k).toList == s.toList) = true := by assumption
            go_ret
            first | exact ⟨ret_bool (ly_no hk1 hlt (leB_or ho)).symm, below_drewN (Below.refl _ _) _⟩ | exact ⟨ret_bool (ly_no hk1 hlt (leB_or ho)).symm, below_drewN (below_drewN (Below.refl _ _) _) _⟩
          · have ho : Op.bytesLess (rotS s k).toList s.toList = false ∧ ((rotS s k).toList == s.toList) = false := by assumption
            go_roundw
            case rel => exact ⟨k + 1, _, by omega, by omega, by go_num, lyTo_succ hl.out (leB_and ho), rfl⟩
            case measure => simp [intOf] <;> omega
        · have hfin := Lib.hid (ly_yes hok.out hl.out (by omega))
          go_wp2
          go_ret
          exact ⟨ret_bool hfin.out.symm, below_drewN (Below.refl _ _) _⟩
    · have r1 : Hid (lyW s = false) := by simp [lyW, rootOk, he, Hid]
      go_enter Try.func34, Try.ntmps34
      go_wp2_with (go_at_call 85; refine (isWord_c _ _ (by unfold maxLen; omega)).mono ?_; rintro e w' ⟨rfl, rfl⟩)
      go_ret
      exact ⟨ret_bool r1.out.symm, Below.refl _ _⟩
end Go.Proofs.Ytlmciomoimfajaa
