/- Contracts of LyndonParts in the program and in the reference. Conditions: strings of at most 2^30 bytes. -/
import Derived.Test.YtlmciomoimfajaaF1
import Derived.Test.YtlmciomoimfajaaM2
namespace Go.Proofs.Ytlmciomoimfajaa
open Go.RowKit
set_option linter.unusedVariables false

theorem lon_yes {s : ByteArray} (hw : wordL s.data.toList = true) {k m : Nat} (h : k + m ≤ s.size) (h1 : 1 ≤ m) (hl : lyW (s.extract k (k + m)) = true) : lonG s k m = m := by
  obtain ⟨g, rfl⟩ : ∃ g, m = g + 1 := ⟨m - 1, by omega⟩
  rw [lonG, if_pos (cB_true ((ly_ext hw h h1).1 hl))]
theorem lon_no {s : ByteArray} (hw : wordL s.data.toList = true) {k m : Nat} (h : k + m ≤ s.size) (h1 : 1 ≤ m) (hl : lyW (s.extract k (k + m)) = false) : lonG s k m = lonG s k (m - 1) := by
  obtain ⟨g, rfl⟩ : ∃ g, m = g + 1 := ⟨m - 1, by omega⟩
  rw [lonG, if_neg (by rw [cB_false (fun h' => by rw [(ly_ext hw h h1).2 h'] at hl; cases hl)]; decide)]; rfl

end Go.Proofs.Ytlmciomoimfajaa
