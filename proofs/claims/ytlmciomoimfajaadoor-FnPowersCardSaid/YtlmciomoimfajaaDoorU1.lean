/- Contracts of l06At and of IsClosedUnderTurn in the program and in the reference, and the walk of its law. Conditions: strings of at most 2^20 bytes. -/
import Derived.Test.YtlmciomoimfajaaDoorT7
import Derived.Test.YtlmciomoimfajaaDoorT9
import Derived.Test.YtlmciomoimfajaaDoorB2
namespace Go.Proofs.YtlmciomoimfajaaDoor
open Go.RowKit
set_option linter.unusedVariables false

theorem rdS_shape {w : World} {v : Value} {L : List ByteArray} (hrd : RdS w v L) : ∃ ga cc, v = .slice ga L.length cc ∧ ∀ (k : Nat) x, L[k]? = some x → ∃ g, ga = some ⟨g, 0, none⟩ ∧ w.cell? ⟨g, k, none⟩ = some (.string x) ∧ L.length ≤ cc := by
  rcases hrd with ⟨rfl, h0⟩ | ⟨g, cap, rfl, hcap, hc⟩
  · exact ⟨none, 0, by rw [h0]; rfl, fun k x hk => by rw [h0] at hk; simp at hk⟩
  · exact ⟨_, _, rfl, fun k x hk => ⟨g, rfl, hc k x hk, hcap⟩⟩
def clB (L : List ByteArray) : Bool := L.all fun f => memB L (rev f)
def clW (s : ByteArray) (n : Int) : Bool := wordL s.data.toList && inB n 1 60 && clB (facW s n.toNat)

end Go.Proofs.YtlmciomoimfajaaDoor
