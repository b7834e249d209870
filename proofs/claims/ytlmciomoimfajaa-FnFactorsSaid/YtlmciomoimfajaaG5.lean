/- Contracts of ChristoffelWord in the program and in the reference. Conditions: none beyond int64 arguments. -/
import Derived.Test.YtlmciomoimfajaaG1
import Derived.Test.YtlmciomoimfajaaA4
namespace Go.Proofs.Ytlmciomoimfajaa
open Go.RowKit
set_option linter.unusedVariables false

def chOk (p q : Int) : Bool := inB q 1 100 && inB p 0 (q - 1) && (Nat.gcd p.toNat q.toNat == 1)
def chS (p q : Int) : ByteArray := if chOk p q = true then St (mechL p q 0 q.toNat) else ⟨#[]⟩
theorem ret_sb {a b : ByteArray} {c d : Bool} (h1 : a = b) (h2 : c = d) : Ending.returned (.tuple #[.string a, .bool c]) = .returned (.tuple #[.string b, .bool d]) := by rw [h1, h2]

end Go.Proofs.Ytlmciomoimfajaa
