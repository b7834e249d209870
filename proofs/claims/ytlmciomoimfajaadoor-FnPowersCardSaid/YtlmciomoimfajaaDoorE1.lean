/- Contract of the reference's l02Has: is a word a part of another: as the library's Contains says it. Conditions: strings of at most 2^30 bytes. -/
import Derived.Test.YtlmciomoimfajaaDoorB0
import Derived.Lib.IndexMore
import Derived.Lib.IndexLaws
import Derived.Deep.QuietTactic
import Derived.BigQuiet
namespace Go.Proofs.YtlmciomoimfajaaDoor
open Go.RowKit
set_option linter.unusedVariables false

theorem occ_eq (s f : ByteArray) (k : Nat) (h : k + f.size ≤ s.size) : ((s.extract k (k + f.size)).toList == f.toList) = Lib.occAt s.data.toList f.data.toList k := by
  rw [Lib.occAt_iff_take _ _ _ (by rw [← size_len, ← size_len]; exact h), Lib.toList_data, Lib.toList_data, ext_data, show k + f.size - k = f.data.toList.length by rw [← size_len]; omega]
theorem has_hit {s f : ByteArray} {k : Nat} (h : Lib.NoOcc s.data.toList f.data.toList k) (hk : k + f.size ≤ s.size) (ho : Lib.occAt s.data.toList f.data.toList k = true) : Lib.contains s.data.toList f.data.toList = true := by
  have := Lib.index_hit h (by rw [← size_len]; omega) ho
  unfold Lib.contains; rw [this]; exact decide_eq_true (by omega)
theorem has_no {s f : ByteArray} {k : Nat} (h : Lib.NoOcc s.data.toList f.data.toList k) (hk : s.size < k + f.size) (hk' : k ≤ s.size + 1) : Lib.contains s.data.toList f.data.toList = false := by
  by_cases hf : f.data.toList = []
  · have hz : f.size = 0 := by rw [size_len, hf]; rfl
    have := h 0 (by omega)
    rw [hf] at this; simp [Lib.occAt] at this
  · have := Lib.index_past hf h (by rw [← size_len, ← size_len]; exact hk)
    unfold Lib.contains; rw [this]; rfl
theorem noOcc_succ {s f : List UInt8} {k : Nat} (h : Lib.NoOcc s f k) (ho : Lib.occAt s f k = false) : Lib.NoOcc s f (k + 1) := by
  intro j hj
  rcases Nat.lt_succ_iff_lt_or_eq.1 hj with hj | rfl
  · exact h j hj
  · exact ho

end Go.Proofs.YtlmciomoimfajaaDoor
