/- What a function that makes a slice of numbers leaves (RetI), and the end of an exact law about such a function. No function of the program but the laws' own. -/
import Derived.Test.YtlmciomoimfajaaDoorM0
namespace Go.Proofs.YtlmciomoimfajaaDoor
open Go.RowKit
set_option linter.unusedVariables false

/-- the call returns a slice that it made (or nil), which holds L -/
def RetI (L : List Int) (w : World) (e : Ending) (w' : World) : Prop := ∃ v, e = .returned v ∧ OwnI w' w.heap.size v L ∧ Below w.heap.size w w'
theorem retI_nil (w w' : World) (L : List Int) (h : L = []) (hb : Below w.heap.size w w') : RetI L w (.returned (.slice none 0 0)) w' :=
  ⟨_, rfl, by rw [h]; exact World.ownsRow_nil _ _ _ _, hb⟩
theorem retI_mk {w w' : World} {v : Value} {l L : List Int} (hown : OwnI w' w.heap.size v l) (h : l = L) (hb : Below w.heap.size w w') : RetI L w (.returned v) w' := ⟨_, rfl, by rw [← h]; exact hown, hb⟩

/-- two results of one call lie apart -/
theorem apart_kept {w1 w2 w3 : World} {B0 : Nat} {v0 v1 : Value} {L0 L1 M : List Int} (h0 : OwnI w1 B0 v0 L0) (h02 : OwnI w2 B0 v0 L0) (h1 : OwnI w2 w1.heap.size v1 L1) (hg : w2.grownBy w3 v1.ownBlock) : OwnI w3 B0 v0 L0 :=
  own_other h02 h0 (Nat.le_refl _) h1 hg
end Go.Proofs.YtlmciomoimfajaaDoor
