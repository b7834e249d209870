/- Plain lemmas for FnLetters: turns and shifts undone, places, letters swapped there and back. No program in sight. -/
import Derived.Test.YtlmciomoimfajaaL2
import Derived.Test.YtlmciomoimfajaaL4
import Derived.Test.YtlmciomoimfajaaL5
import Derived.Test.YtlmciomoimfajaaL6
import Derived.Test.YtlmciomoimfajaaQ0
import Derived.Test.YtlmciomoimfajaaC2
import Derived.Test.YtlmciomoimfajaaQ5
import Derived.Test.YtlmciomoimfajaaB2
import Derived.Test.YtlmciomoimfajaaE2
import Derived.Test.YtlmciomoimfajaaV7
namespace Go.Proofs.Ytlmciomoimfajaa
open Go.RowKit
set_option linter.unusedVariables false

theorem contains_of {s f : List UInt8} {i : Nat} (hi : i ≤ s.length) (h : Lib.occAt s f i = true) : Lib.contains s f = true := by
  unfold Lib.contains
  rcases Lib.index_spec s f with ⟨_, h2⟩ | ⟨j, h1, _⟩
  · rw [h2 i hi] at h; cases h
  · rw [h1]; exact decide_eq_true (by omega)
theorem contains_iff {s f : List UInt8} : Lib.contains s f = true ↔ ∃ i, i ≤ s.length ∧ Lib.occAt s f i = true := by
  constructor
  · intro h
    unfold Lib.contains at h
    have h0 := of_decide_eq_true h
    rcases Lib.index_spec s f with ⟨h1, _⟩ | ⟨j, h1, h2, h3, _⟩
    · rw [h1] at h0; omega
    · exact ⟨j, h2, h3⟩
  · rintro ⟨i, h1, h2⟩; exact contains_of h1 h2
theorem conj_rot {s : ByteArray} (hw : wordL s.data.toList = true) {k : Nat} (hk : k ≤ s.size) : conjB s (rotS s k) = true := by
  have hz := size_len s
  unfold conjB
  rw [hw, rotW hw k, decide_eq_true (rot_len s hk).symm]
  simp only [Bool.true_and]
  refine contains_of (i := k) (by rw [ByteArray.data_append, Array.toList_append, List.length_append]; omega) ?_
  have hr : (rotS s k).data.toList = s.data.toList.drop k ++ s.data.toList.take k := rfl
  unfold Lib.occAt
  rw [hr, ByteArray.data_append, Array.toList_append, List.drop_append_of_le_length (by omega), List.isPrefixOf_iff_prefix]
  exact (List.prefix_append_right_inj _).2 (List.take_prefix _ _)
theorem rev_rev (s : ByteArray) : rev (rev s) = s := by apply str_inj; rw [rev_data, rev_data, List.reverse_reverse]
theorem rev_word {s : ByteArray} (hw : wordL s.data.toList = true) : wordL (rev s).data.toList = true := by
  rw [rev_data]
  exact wordL_mk (fun c hc => wordL_all hw c (List.mem_reverse.1 hc)) (by rw [List.length_reverse]; exact wordL_len hw)
theorem plc_mem {s f : ByteArray} {k : Nat} (hk : k + f.size ≤ s.size) (h : Lib.occAt s.data.toList f.data.toList k = true) : (k : Int) ∈ plcW s f :=
  (sel_mem _ _ _ _).2 ⟨k, rfl, by omega, by omega, h⟩
theorem plc_end {s f : ByteArray} {k : Nat} (hk : k ≤ s.size + 1 - f.size) (h : s.size < k + f.size) : (selL (Lib.occAt s.data.toList f.data.toList) k 0).length = (plcW s f).length := by
  unfold plcW; rw [show k = s.size + 1 - f.size by omega]
theorem plc_has {s f : ByteArray} (h1 : 1 ≤ f.size) : Lib.contains s.data.toList f.data.toList = decide (0 < ((plcW s f).length : Int)) := by
  rw [Bool.eq_iff_iff, contains_iff, decide_eq_true_eq]
  constructor
  · rintro ⟨i, h2, h3⟩
    have h4 : i + f.size ≤ s.size := by
      rcases Lib.occAt_room h3 with h | h
      · rw [← size_len, ← size_len] at h; exact h
      · rw [size_len, h] at h1; simp at h1
    have := List.length_pos_of_mem (plc_mem h4 h3); omega
  · intro h
    obtain ⟨x, hx⟩ := List.exists_mem_of_length_pos (show 0 < (plcW s f).length by omega)
    obtain ⟨k, _, _, h3, h4⟩ := (sel_mem _ _ _ _).1 hx
    exact ⟨k, by rw [← size_len]; omega, h4⟩
theorem contains_nil (l : List UInt8) : Lib.contains l (⟨#[]⟩ : ByteArray).data.toList = true := contains_of (i := 0) (Nat.zero_le _) (by simp [Lib.occAt])
theorem bytesLess_irr : ∀ l : List UInt8, Op.bytesLess l l = false
  | [] => rfl
  | a :: l => by
    have := bytesLess_irr l
    simp [Op.bytesLess, this]
def bcda : ByteArray := ⟨#[98, 99, 100, 97]⟩
def dabc : ByteArray := ⟨#[100, 97, 98, 99]⟩
theorem bcda_one : ∀ k, k < 4 → bcda.data.toList.count (letU k) = 1 := by
  intro k hk
  rcases (show k = 0 ∨ k = 1 ∨ k = 2 ∨ k = 3 by omega) with rfl | rfl | rfl | rfl <;> decide
theorem dabc_one : ∀ k, k < 4 → dabc.data.toList.count (letU k) = 1 := by
  intro k hk
  rcases (show k = 0 ∨ k = 1 ∨ k = 2 ∨ k = 3 by omega) with rfl | rfl | rfl | rfl <;> decide
theorem swap_word {s : ByteArray} (hw : wordL s.data.toList = true) : wordL (St (swapL bcda s.data.toList)).data.toList = true := by
  rw [St_data]
  refine wordL_mk (fun c hc => ?_) (by rw [swapL_len]; exact wordL_len hw)
  obtain ⟨x, hx, rfl⟩ := List.mem_map.1 hc
  rcases abcd_cases (wordL_all hw x hx) with rfl | rfl | rfl | rfl <;> decide
theorem swap_back {s : ByteArray} (hw : wordL s.data.toList = true) : St (swapL dabc (St (swapL bcda s.data.toList)).data.toList) = s := by
  apply str_inj
  rw [St_data, St_data]
  unfold swapL
  rw [List.map_map]
  refine (List.map_congr_left (g := id) fun x hx => ?_).trans (List.map_id _)
  rcases abcd_cases (wordL_all hw x hx) with rfl | rfl | rfl | rfl <;> decide
theorem common_pre {s t : ByteArray} {p : Nat} (h : sameTo8 s t p) : (s.extract 0 p).toList = (t.extract 0 p).toList := by
  rw [Lib.toList_data, Lib.toList_data, ext_data, ext_data, List.drop_zero, List.drop_zero, Nat.sub_zero]
  apply List.ext_getElem?
  intro j
  rw [List.getElem?_take, List.getElem?_take]
  split
  · exact h j (by assumption)
  · rfl
end Go.Proofs.Ytlmciomoimfajaa
