/- Contracts of isWord and WordOk: both answer 'at most 400 letters, each from a to d' and write nothing. Conditions: a string's length fits. -/
import Derived.Test.YtlmciomoimfajaaDoorB0
namespace Go.Proofs.YtlmciomoimfajaaDoor
open Go.RowKit
set_option linter.unusedVariables false

def abcd (c : UInt8) : Bool := decide (97 ≤ c.toNat) && decide (c.toNat ≤ 100)
def wordL (l : List UInt8) : Bool := l.all abcd && decide (l.length ≤ 400)
theorem abcd_iff {c : UInt8} : abcd c = true ↔ 97 ≤ (c.toNat : Int) ∧ (c.toNat : Int) ≤ 100 := by
  simp only [abcd, Bool.and_eq_true, decide_eq_true_eq]; omega
theorem wordL_len {l : List UInt8} (h : wordL l = true) : l.length ≤ 400 := by
  simp only [wordL, Bool.and_eq_true, decide_eq_true_eq] at h; exact h.2
theorem wordL_all {l : List UInt8} (h : wordL l = true) : ∀ c ∈ l, abcd c = true := by
  simp only [wordL, Bool.and_eq_true, List.all_eq_true] at h; exact h.1
theorem wordL_mk {l : List UInt8} (h1 : ∀ c ∈ l, abcd c = true) (h2 : l.length ≤ 400) : wordL l = true := by
  simp only [wordL, Bool.and_eq_true, List.all_eq_true, decide_eq_true_eq]; exact ⟨h1, h2⟩
theorem wordL_size {s : ByteArray} (h : wordL s.data.toList = true) : s.size ≤ 400 := by rw [size_len]; exact wordL_len h

/-- the first k bytes are letters -/
def lettersUpto (s : ByteArray) (k : Nat) : Prop := ∀ c ∈ s.data.toList.take k, abcd c = true
theorem lettersUpto_zero (s : ByteArray) : lettersUpto s 0 := by intro c hc; simp at hc
theorem lettersUpto_succ {s : ByteArray} {k : Nat} (hk : k < s.size) (h : lettersUpto s k) (h1 : 97 ≤ (s[k].toNat : Int)) (h2 : (s[k].toNat : Int) ≤ 100) : lettersUpto s (k + 1) := by
  intro c hc
  rw [take_snoc s k hk] at hc
  rcases List.mem_append.1 hc with hc | hc
  · exact h c hc
  · simp only [List.mem_singleton] at hc; subst hc; exact abcd_iff.2 ⟨h1, h2⟩
theorem word_bad {s : ByteArray} {k : Nat} (hk : k < s.size) (h : (s[k].toNat : Int) < 97 ∨ 100 < (s[k].toNat : Int)) : wordL s.data.toList = false := by
  cases hw : wordL s.data.toList with
  | false => rfl
  | true =>
    have := abcd_iff.1 (wordL_all hw s[k] (List.mem_of_getElem (i := k) (h := by simpa using hk) rfl))
    omega
theorem word_end {s : ByteArray} {k : Nat} (hk : s.size ≤ k) (h : lettersUpto s k) : wordL s.data.toList = decide ((s.size : Int) ≤ 400) := by
  have he : decide ((s.size : Int) ≤ 400) = decide (s.size ≤ 400) := by rw [decide_eq_decide]; omega
  rw [he]
  have ha : s.data.toList.all abcd = true := by
    rw [List.all_eq_true]; intro c hc
    exact h c (by rw [List.take_of_length_le (by rw [← size_len]; exact hk)]; exact hc)
  simp [wordL, ha]

set_option maxHeartbeats 400000 in
theorem isWord_c (s : ByteArray) (w : World) (hs : s.size ≤ maxLen) :
    Calls Tryd.prog 26 #[.string s] w fun e w' => e = .returned (.bool (wordL s.data.toList)) ∧ w = w' := by
  unfold maxLen at hs
  go_enter Tryd.func26, Tryd.ntmps26
  go_wp2
  go_loop [6] (fun i => ∃ k : Nat, k ≤ s.size ∧ i = .int .i64 k ∧ Hid (lettersUpto s k)) (fun i => s.size - (intOf i).toNat)
  case atStart => exact ⟨0, Nat.zero_le _, rfl, lettersUpto_zero s⟩
  case round =>
    obtain ⟨k, hk, rfl, hl⟩ := hrel
    by_cases hlt : k < s.size
    · by_cases h1 : (s[k].toNat : Int) < 97
      · go_wp2
        go_ret
        exact ⟨ret_bool (word_bad hlt (.inl h1)).symm, rfl⟩
      · by_cases h2 : 100 < (s[k].toNat : Int)
        · go_wp2
          go_ret
          exact ⟨ret_bool (word_bad hlt (.inr h2)).symm, rfl⟩
        · go_wp2
          go_round
          case rel => exact ⟨k + 1, by omega, by go_num, lettersUpto_succ hlt hl.out (by omega) (by omega)⟩
          case measure => simp [intOf]; omega
    · go_wp2
      go_ret
      exact ⟨ret_bool (word_end (by omega) hl.out).symm, rfl⟩

end Go.Proofs.YtlmciomoimfajaaDoor
