/- Contracts of closed, l08Close, CloseWord, DirectedWord, DirectionOf: palindromic closures. Conditions: strings of at most 2^20 bytes. -/
import Derived.Test.YtlmciomoimfajaaB2
import Derived.WalkSmall
namespace Go.Proofs.Ytlmciomoimfajaa
open Go.RowKit
set_option linter.unusedVariables false

/-! ### plain -/
def isPalL (l : List UInt8) : Bool := decide (l = l.reverse)
theorem ext_end (s : ByteArray) (k : Nat) : (s.extract k s.size).data.toList = s.data.toList.drop k := by
  rw [ext_data, List.take_of_length_le (by rw [List.length_drop, ← size_len]; exact Nat.le_refl _)]
theorem isPal_drop (s : ByteArray) (k : Nat) : isPal (s.extract k s.size) = isPalL (s.data.toList.drop k) := by
  unfold isPal isPalL
  rw [ext_end s k]
/-- the first k from k on at which the rest is a palindrome -/
def ciGo (l : List UInt8) : Nat → Nat → Nat
  | 0, k => k
  | f + 1, k => if isPalL (l.drop k) = true then k else ciGo l f (k + 1)
def ci (l : List UInt8) : Nat := ciGo l l.length 0
def closeL (l : List UInt8) : List UInt8 := l ++ (l.take (ci l)).reverse
def closeS (s : ByteArray) : ByteArray := St (closeL s.data.toList)
theorem ciGo_hit {l : List UInt8} {k : Nat} (hk : k ≤ l.length) (h : isPalL (l.drop k) = true) : ciGo l (l.length - k) k = k := by
  rcases Nat.eq_or_lt_of_le hk with rfl | hlt
  · rw [Nat.sub_self]; rfl
  · rw [show l.length - k = (l.length - k - 1) + 1 by omega, ciGo, if_pos h]
theorem ciGo_miss {l : List UInt8} {k : Nat} (hk : k < l.length) (h : isPalL (l.drop k) = false) : ciGo l (l.length - k) k = ciGo l (l.length - (k + 1)) (k + 1) := by
  rw [show l.length - k = (l.length - k - 1) + 1 by omega, ciGo, if_neg (by simp [h]), show l.length - k - 1 = l.length - (k + 1) by omega]
theorem pal_nil : isPalL [] = true := rfl
theorem pal_one (c : UInt8) : isPalL [c] = true := by simp [isPalL]
theorem pal_end (l : List UInt8) : isPalL (l.drop l.length) = true := by rw [List.drop_length]; rfl
theorem pal_last {l : List UInt8} {k : Nat} (h : k + 1 = l.length) : isPalL (l.drop k) = true := by
  rw [List.drop_eq_getElem_cons (by omega), List.drop_of_length_le (by omega)]; exact pal_one _
theorem ciGo_le (l : List UInt8) : ∀ f k, ciGo l f k ≤ k + f
  | 0, k => by simp [ciGo]
  | f + 1, k => by
    have := ciGo_le l f (k + 1)
    unfold ciGo; split <;> omega
theorem ci_le (l : List UInt8) : ci l ≤ l.length := by have := ciGo_le l l.length 0; unfold ci; omega
theorem closeL_len (l : List UInt8) : (closeL l).length ≤ 2 * l.length := by
  unfold closeL; rw [List.length_append, List.length_reverse, List.length_take]; omega
theorem closeL_ge (l : List UInt8) : l.length ≤ (closeL l).length := by
  unfold closeL; rw [List.length_append]; omega
theorem closeL_mem {l : List UInt8} {c : UInt8} (h : c ∈ closeL l) : c ∈ l := by
  unfold closeL at h
  rcases List.mem_append.1 h with h | h
  · exact h
  · exact List.mem_of_mem_take (List.mem_reverse.1 h)
theorem close_eq {s : ByteArray} {k : Nat} (hk : k = ci s.data.toList) : s ++ rev (s.extract 0 k) = closeS s := by
  apply str_inj
  rw [ByteArray.data_append, Array.toList_append, rev_data, ext_data, closeS, St_data, closeL, hk]
  simp
theorem closeS_empty (s : ByteArray) (h : s.size = 0) : closeS s = ⟨#[]⟩ := by
  have : s.data.toList = [] := List.eq_nil_of_length_eq_zero (by rw [← size_len]; exact h)
  unfold closeS; rw [this]; rfl
theorem closeS_size (s : ByteArray) : (closeS s).size ≤ 2 * s.size := by
  have := closeL_len s.data.toList
  rw [closeS, St_size, size_len]; exact this

/-! ### closed, l08Close, CloseWord -/
set_option maxHeartbeats 1000000 in
theorem closed_c (s : ByteArray) (w : World) (hs : s.size ≤ 1073741000) :
    Calls Try.prog 113 #[.string s] w fun e w' => e = .returned (.string (closeS s)) ∧ Below w.heap.size w w' := by
  have hl := Lib.hid (size_len s)
  have hst : Hid (ciGo s.data.toList (s.data.toList.length - 0) 0 = ci s.data.toList) := rfl
  go_enter Try.func113, Try.ntmps113
  go_wp2
  go_loopw [6] (fun i wr => ∃ k : Nat, k ≤ s.size ∧ (k < s.size ∨ s.size = 0) ∧ i = .int .i64 k ∧ Hid (ciGo s.data.toList (s.data.toList.length - k) k = ci s.data.toList) ∧ Below w.heap.size w wr) (fun i _ => s.size - (intOf i).toNat)
  case atStart => exact ⟨0, Nat.zero_le _, by omega, rfl, hst, Below.refl _ _⟩
  case round =>
    obtain ⟨k, hk, hk2, rfl, hg, hbw⟩ := hrel
    have hsz := hbw.size
    by_cases hlt : k < s.size
    · have b1 : (k : Int) ≤ (s.size : Int) := by omega
      have z1 := ext_size s k s.size (Nat.le_refl _) hk
      have z2 := ext_size s 0 k hk (Nat.zero_le _)
      have z3 := rev_size (s.extract 0 k)
      have hc := fun W => Lib.hid (isTurned_c (s.extract k s.size) W (by omega))
      have hc2 := fun W => Lib.hid (turned_c (s.extract 0 k) W (by omega))
      have hpd := isPal_drop s k
      cases hp : isPalL (s.data.toList.drop k)
      · rw [hp] at hpd
        have hnl : k + 1 < s.size := by
          rcases Nat.lt_or_ge (k + 1) s.size with h | h
          · exact h
          · rw [pal_last (by rw [← hl.out]; omega)] at hp; cases hp
        have hnx : Hid (ciGo s.data.toList (s.data.toList.length - (k + 1)) (k + 1) = ci s.data.toList) := by rw [Hid, ← ciGo_miss (by rw [← hl.out]; exact hlt) hp]; exact hg.out
        clear hp
        go_wp2_with (go_at_call 110; refine (hc _).out.mono ?_; rintro e w' ⟨rfl, hb2⟩)
        go_roundw
        case rel => exact ⟨k + 1, by omega, by omega, by go_num, hnx, hbw.trans (hb2.mono hsz)⟩
        case measure => simp [intOf] <;> omega
      · rw [hp] at hpd
        have hfin := Lib.hid (close_eq (s := s) (k := k) (by rw [← hg.out]; exact (ciGo_hit (by rw [← hl.out]; exact hk) hp).symm))
        clear hp
        go_wp2_with (first | (go_at_call 110; refine (hc _).out.mono ?_; rintro e w1 ⟨rfl, hb2⟩) | (go_at_call 86; refine (hc2 _).out.mono ?_; rintro e w2 ⟨rfl, hb3⟩))
        go_ret
        exact ⟨ret_str hfin.out, (hbw.trans (hb2.mono hsz)).trans (hb3.mono (Nat.le_trans hsz hb2.size))⟩
    · have hfin := Lib.hid (closeS_empty s (by omega))
      go_wp2
      go_ret
      exact ⟨ret_str hfin.out.symm, hbw⟩

def cwS (s : ByteArray) : ByteArray := if (wordL s.data.toList && wordL (closeS s).data.toList) = true then closeS s else ⟨#[]⟩

set_option maxHeartbeats 400000 in
theorem closeWord_i (s : ByteArray) (w : World) (hs : s.size ≤ 536870000) :
    Calls Try.prog 64 #[.string s] w fun e w' => e = .returned (.string (cwS s)) ∧ Below w.heap.size w w' := by
  cases hw : wordL s.data.toList
  · have hr : Hid (cwS s = ⟨#[]⟩) := by simp [cwS, hw, Hid]
    go_enter Try.func64, Try.ntmps64
    go_wp2_with (go_at_call 85; refine (isWord_c _ _ (by unfold maxLen; omega)).mono ?_; rintro e w' ⟨rfl, rfl⟩)
    go_ret
    exact ⟨ret_str hr.out.symm, Below.refl _ _⟩
  · have hcs := closeS_size s
    have hcl := fun W => Lib.hid (closed_c s W (by omega))
    have hw2 := fun W => Lib.hid (isWord_c (closeS s) W (by unfold maxLen; omega))
    have hw1 := fun W => Lib.hid (isWord_c s W (by unfold maxLen; omega))
    cases hv : wordL (closeS s).data.toList
    · have hr : Hid (cwS s = ⟨#[]⟩) := by simp [cwS, hw, hv, Hid]
      go_enter Try.func64, Try.ntmps64
      go_wp2_with fail
      refine (hw1 _).out.mono ?_
      rintro e w' ⟨rfl, rfl⟩
      go_wp2_with fail
      refine (hcl _).out.mono ?_
      rintro e w1 ⟨rfl, hb1⟩
      go_wp2_with fail
      refine (hw2 _).out.mono ?_
      rintro e w' ⟨rfl, rfl⟩
      go_wp2_with fail
      go_ret
      exact ⟨ret_str hr.out.symm, hb1⟩
    · have hr : Hid (cwS s = closeS s) := by simp [cwS, hw, hv, Hid]
      go_enter Try.func64, Try.ntmps64
      go_wp2_with fail
      refine (hw1 _).out.mono ?_
      rintro e w' ⟨rfl, rfl⟩
      go_wp2_with fail
      refine (hcl _).out.mono ?_
      rintro e w1 ⟨rfl, hb1⟩
      go_wp2_with fail
      refine (hw2 _).out.mono ?_
      rintro e w' ⟨rfl, rfl⟩
      go_wp2_with fail
      refine (hcl _).out.mono ?_
      rintro e w2 ⟨rfl, hb2⟩
      go_wp2_with fail
      go_ret
      exact ⟨ret_str hr.out.symm, hb1.trans (hb2.mono hb1.size)⟩

end Go.Proofs.Ytlmciomoimfajaa
