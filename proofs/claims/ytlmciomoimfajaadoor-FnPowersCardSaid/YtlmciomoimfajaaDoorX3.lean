/- Contracts of apply, ApplySubst and IterateSubst in the program. Conditions: a valid substitution whose images can be read, a word over its letters. -/
import Derived.Test.YtlmciomoimfajaaDoorX2
namespace Go.Proofs.YtlmciomoimfajaaDoor
open Go.RowKit
set_option linter.unusedVariables false

theorem itL_in {L : List ByteArray} (h : OkL L) {l : List UInt8} (hl : ∀ c ∈ l, inL L c) : ∀ k, ∀ c ∈ itL L l k, inL L c
  | 0 => hl
  | k + 1 => apL_in h (itL_in h hl k)
theorem itL_mono {L : List ByteArray} (h : OkL L) {l : List UInt8} (hl : ∀ c ∈ l, inL L c) {j : Nat} : ∀ k, (itL L l j).length ≤ (itL L l (j + k)).length
  | 0 => Nat.le_refl _
  | k + 1 => Nat.le_trans (itL_mono h hl k) (apL_len h (itL_in h hl (j + k))).1
theorem word_len {L : List ByteArray} (h : OkL L) {l : List UInt8} (hl : ∀ c ∈ l, inL L c) : wordL l = decide (l.length ≤ 400) := by
  by_cases hz : l.length ≤ 400
  · rw [decide_eq_true hz]; exact wordL_mk (fun c hc => inL_abcd h (hl c hc)) hz
  · rw [decide_eq_false hz]
    cases hw : wordL l with
    | false => rfl
    | true => exact absurd (wordL_len hw) hz
def itB (L : List ByteArray) (l : List UInt8) (m : Nat) : Bool := decide ((itL L l m).length ≤ 400)
def itS (L : List ByteArray) (l : List UInt8) (m : Nat) : ByteArray := if itB L l m = true then St (itL L l m) else St []
theorem ret_sbX {a b : ByteArray} {c d : Bool} (h1 : a = b) (h2 : c = d) : Ending.returned (.tuple #[.string a, .bool c]) = .returned (.tuple #[.string b, .bool d]) := by rw [h1, h2]
end Go.Proofs.YtlmciomoimfajaaDoor
