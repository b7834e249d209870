/- Plain lemmas on parts of words (for FnPowers; the same facts lie in R4 and R5 for FnPalindromes). No program in sight. -/
import Derived.Test.YtlmciomoimfajaaDoorT3
import Derived.Test.YtlmciomoimfajaaDoorV7
import Derived.Test.YtlmciomoimfajaaDoorL6
namespace Go.Proofs.YtlmciomoimfajaaDoor
set_option linter.unusedVariables false

theorem inf_ext {s t : ByteArray} : t.data.toList <:+: s.data.toList ↔ ∃ j, j + t.size ≤ s.size ∧ t = s.extract j (j + t.size) := by
  constructor
  · rintro ⟨a, b, h⟩
    have hl := congrArg List.length h
    rw [List.length_append, List.length_append, ← size_len, ← size_len] at hl
    refine ⟨a.length, by omega, str_inj ?_⟩
    rw [ext_data, ← h, List.append_assoc, List.drop_left' rfl, show a.length + t.size - a.length = t.data.toList.length by rw [← size_len]; omega, List.take_left' rfl]
  · rintro ⟨j, h1, h2⟩
    rw [h2, ext_data]
    exact (List.take_prefix _ _).isInfix.trans (List.drop_suffix _ _).isInfix
theorem short_of {s : ByteArray} (hw : wordL s.data.toList = true) (hs : s.size ≤ 60) : shortB s = true := shortB_iff.2 ⟨hw, hs⟩
theorem contains_inf {s x : ByteArray} (h : x.data.toList <:+: s.data.toList) : Lib.contains s.data.toList x.data.toList = true := by
  obtain ⟨a, b, e⟩ := h
  have ho : Lib.occAt s.data.toList x.data.toList a.length = true := by
    unfold Lib.occAt
    rw [List.isPrefixOf_iff_prefix, ← e, List.append_assoc, List.drop_left' rfl]
    exact List.prefix_append _ _
  have hle : a.length ≤ s.data.toList.length := by rw [← e, List.length_append, List.length_append]; omega
  unfold Lib.contains
  rcases Lib.index_spec s.data.toList x.data.toList with ⟨_, h2⟩ | ⟨j, h1, _⟩
  · rw [h2 _ hle] at ho; cases ho
  · rw [h1]; exact decide_eq_true (by omega)
theorem word_inf {s x : ByteArray} (hw : wordL s.data.toList = true) (h : x.data.toList <:+: s.data.toList) : wordL x.data.toList = true :=
  wordL_mk (fun c hc => wordL_all hw c (h.subset hc)) (Nat.le_trans h.length_le (wordL_len hw))
theorem size_inf {s x : ByteArray} (h : x.data.toList <:+: s.data.toList) : x.size ≤ s.size := by rw [size_len, size_len]; exact h.length_le
end Go.Proofs.YtlmciomoimfajaaDoor
