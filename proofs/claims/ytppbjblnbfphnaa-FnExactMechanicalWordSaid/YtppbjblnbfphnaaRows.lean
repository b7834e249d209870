/-
  No cell of these rows narrows 'for every input' (looked for: loops, veiled, ifaces, maps, wideKeys, modest, calm, conditions, laid).
  DERIVED. THE GIVEN ROWS OF THIS SEAT. 6 by the template 'for every input the law returns true; each argument reads behind the call as it read before'; 0 by the template 'total and deterministic' (their statements: YtppbjblnbfphnaaTotals.lean).
  GIVEN WITH THE SEED: the statements are not yours to turn. If you find one false, say at which input.
  Laid BY PROGRAM, IN A SANDBOX (cutbox-rows.mjs): the forced cells as the released guide's own fill.sh prints them over the translation bb202e41381554d3… (all of the seat's roots in one cut). By AI agents, Wed Nov 11 2026. No macro, syntax, notation, axiom, sorry.
-/
import Derived.Test.YtppbjblnbfphnaaChecked
import GoSem.Claim
import GoSem.ClaimJoined
import GoSem.ClaimMapViews
import Derived.JoinedTies
import Derived.KernelRfl
namespace Go.Proofs.Ytppbjblnbfphnaa
/- THE CELL 'sum', in the pinned program and in every row, IS THE sha256 OF THE DUMP (.gsa) THAT YtppbjblnbfphnaaProg.lean LOADS. Nothing in Lean hashes anything: it is a label: what it is worth is what the hold of that sum in a sandbox is worth. -/
noncomputable def Try.pinned : Pinned := { name := "ytppbjblnbfphnaa", sum := "bb202e41381554d39a3d12fcd8b1a0f1446cd329c3874cf3edcca57174876348", checked := Try.checked }
namespace Rows
def none {H : Type} : Left H := { results := [], args := [] }

/-- 'laws.FnExactReturnTime': WHATEVER THE INPUT: true; the input reads as it did. -/
def fnExactReturnTimeSpec : ChangeSpec := { name := "fnExactReturnTime", fn := fun _ => fun
  | [d1, d2, d3, d4, d5] => { results := [.lit (.bool true)], args := [d1, d2, d3, d4, d5] }
  | _ => none }
def fnExactReturnTimeRow : OpenClaim := { program := "ytppbjblnbfphnaa", sum := "bb202e41381554d39a3d12fcd8b1a0f1446cd329c3874cf3edcca57174876348", func := "loop.example/g03209/laws.FnExactReturnTime", spec := "fnExactReturnTime", apart := false }
def FnExactReturnTimeSaid : Prop := fnExactReturnTimeRow.holds Try.pinned (OpenSpec.ofChange fnExactReturnTimeSpec)

/-- ITS FALSE NEIGHBOUR: 'it returns false'. Refute it at one input. -/
def fnExactReturnTimeWrong : ChangeSpec := { name := "fnExactReturnTime", fn := fun _ => fun
  | [d1, d2, d3, d4, d5] => { results := [.lit (.bool false)], args := [d1, d2, d3, d4, d5] }
  | _ => none }
def FnExactReturnTimeWrongFalsely : Prop := fnExactReturnTimeRow.holds Try.pinned (OpenSpec.ofChange fnExactReturnTimeWrong)

/-- 'laws.FnExactCountIn': WHATEVER THE INPUT: true; the input reads as it did. -/
def fnExactCountInSpec : ChangeSpec := { name := "fnExactCountIn", fn := fun _ => fun
  | [d1, d2, d3, d4, d5] => { results := [.lit (.bool true)], args := [d1, d2, d3, d4, d5] }
  | _ => none }
def fnExactCountInRow : OpenClaim := { program := "ytppbjblnbfphnaa", sum := "bb202e41381554d39a3d12fcd8b1a0f1446cd329c3874cf3edcca57174876348", func := "loop.example/g03209/laws.FnExactCountIn", spec := "fnExactCountIn", apart := false }
def FnExactCountInSaid : Prop := fnExactCountInRow.holds Try.pinned (OpenSpec.ofChange fnExactCountInSpec)

/-- ITS FALSE NEIGHBOUR: 'it returns false'. Refute it at one input. -/
def fnExactCountInWrong : ChangeSpec := { name := "fnExactCountIn", fn := fun _ => fun
  | [d1, d2, d3, d4, d5] => { results := [.lit (.bool false)], args := [d1, d2, d3, d4, d5] }
  | _ => none }
def FnExactCountInWrongFalsely : Prop := fnExactCountInRow.holds Try.pinned (OpenSpec.ofChange fnExactCountInWrong)

/-- 'laws.FnExactMechanicalWord': WHATEVER THE INPUT: true; the input reads as it did. -/
def fnExactMechanicalWordSpec : ChangeSpec := { name := "fnExactMechanicalWord", fn := fun _ => fun
  | [d1, d2, d3, d4] => { results := [.lit (.bool true)], args := [d1, d2, d3, d4] }
  | _ => none }
def fnExactMechanicalWordRow : OpenClaim := { program := "ytppbjblnbfphnaa", sum := "bb202e41381554d39a3d12fcd8b1a0f1446cd329c3874cf3edcca57174876348", func := "loop.example/g03209/laws.FnExactMechanicalWord", spec := "fnExactMechanicalWord", apart := false }
def FnExactMechanicalWordSaid : Prop := fnExactMechanicalWordRow.holds Try.pinned (OpenSpec.ofChange fnExactMechanicalWordSpec)

/-- ITS FALSE NEIGHBOUR: 'it returns false'. Refute it at one input. -/
def fnExactMechanicalWordWrong : ChangeSpec := { name := "fnExactMechanicalWord", fn := fun _ => fun
  | [d1, d2, d3, d4] => { results := [.lit (.bool false)], args := [d1, d2, d3, d4] }
  | _ => none }
def FnExactMechanicalWordWrongFalsely : Prop := fnExactMechanicalWordRow.holds Try.pinned (OpenSpec.ofChange fnExactMechanicalWordWrong)

/-- 'laws.FnExactNearestTo': WHATEVER THE INPUT: true; the input reads as it did. -/
def fnExactNearestToSpec : ChangeSpec := { name := "fnExactNearestTo", fn := fun _ => fun
  | [d1, d2, d3] => { results := [.lit (.bool true)], args := [d1, d2, d3] }
  | _ => none }
def fnExactNearestToRow : OpenClaim := { program := "ytppbjblnbfphnaa", sum := "bb202e41381554d39a3d12fcd8b1a0f1446cd329c3874cf3edcca57174876348", func := "loop.example/g03209/laws.FnExactNearestTo", spec := "fnExactNearestTo", apart := false }
def FnExactNearestToSaid : Prop := fnExactNearestToRow.holds Try.pinned (OpenSpec.ofChange fnExactNearestToSpec)

/-- ITS FALSE NEIGHBOUR: 'it returns false'. Refute it at one input. -/
def fnExactNearestToWrong : ChangeSpec := { name := "fnExactNearestTo", fn := fun _ => fun
  | [d1, d2, d3] => { results := [.lit (.bool false)], args := [d1, d2, d3] }
  | _ => none }
def FnExactNearestToWrongFalsely : Prop := fnExactNearestToRow.holds Try.pinned (OpenSpec.ofChange fnExactNearestToWrong)

/-- 'laws.FnExactIsPalindrome': WHATEVER THE INPUT: true; the input reads as it did. -/
def fnExactIsPalindromeSpec : ChangeSpec := { name := "fnExactIsPalindrome", fn := fun _ => fun
  | [d] => { results := [.lit (.bool true)], args := [d] }
  | _ => none }
def fnExactIsPalindromeRow : OpenClaim := { program := "ytppbjblnbfphnaa", sum := "bb202e41381554d39a3d12fcd8b1a0f1446cd329c3874cf3edcca57174876348", func := "loop.example/g03209/laws.FnExactIsPalindrome", spec := "fnExactIsPalindrome", apart := false }
def FnExactIsPalindromeSaid : Prop := fnExactIsPalindromeRow.holds Try.pinned (OpenSpec.ofChange fnExactIsPalindromeSpec)

/-- ITS FALSE NEIGHBOUR: 'it returns false'. Refute it at one input. -/
def fnExactIsPalindromeWrong : ChangeSpec := { name := "fnExactIsPalindrome", fn := fun _ => fun
  | [d] => { results := [.lit (.bool false)], args := [d] }
  | _ => none }
def FnExactIsPalindromeWrongFalsely : Prop := fnExactIsPalindromeRow.holds Try.pinned (OpenSpec.ofChange fnExactIsPalindromeWrong)

/-- 'laws.FnExactFractionAt': WHATEVER THE INPUT: true; the input reads as it did. -/
def fnExactFractionAtSpec : ChangeSpec := { name := "fnExactFractionAt", fn := fun _ => fun
  | [d] => { results := [.lit (.bool true)], args := [d] }
  | _ => none }
def fnExactFractionAtRow : OpenClaim := { program := "ytppbjblnbfphnaa", sum := "bb202e41381554d39a3d12fcd8b1a0f1446cd329c3874cf3edcca57174876348", func := "loop.example/g03209/laws.FnExactFractionAt", spec := "fnExactFractionAt", apart := false }
def FnExactFractionAtSaid : Prop := fnExactFractionAtRow.holds Try.pinned (OpenSpec.ofChange fnExactFractionAtSpec)

/-- ITS FALSE NEIGHBOUR: 'it returns false'. Refute it at one input. -/
def fnExactFractionAtWrong : ChangeSpec := { name := "fnExactFractionAt", fn := fun _ => fun
  | [d] => { results := [.lit (.bool false)], args := [d] }
  | _ => none }
def FnExactFractionAtWrongFalsely : Prop := fnExactFractionAtRow.holds Try.pinned (OpenSpec.ofChange fnExactFractionAtWrong)

/- THE SECOND FORM. 'bulk': how many values and letters a reading holds, each counted each time it is reached (what is shared counts as often as it is met; a slice's spare places count too). A statement '..UptoSaid' is the law's where the arguments, and the package variables that the reading takes, are together of bulk at most 1048576: NARROWER than '..Said'. Prove '..Said' where nothing that the law and all that it calls make is longer than what came in: it says more and counts as full. Else prove '..UptoSaid'. A law counts once. -/
mutual
def uptoBulk {H : Type} : DataW H → Nat
  | .lit (.string bytes) => bytes.length + 1
  | .lit _ => 1
  | .nil => 1
  | .ptr d => uptoBulk d + 1
  | .slice elems spare => uptoBulkAll elems + uptoBulkAll spare + 1
  | .agg parts => uptoBulkAll parts + 1
  | .iface _ d => uptoBulk d + 1
  | .map entries => uptoBulkEntries entries + 1
  | .held _ => 1
def uptoBulkAll {H : Type} : List (DataW H) → Nat
  | [] => 0
  | d :: r => uptoBulk d + uptoBulkAll r
def uptoBulkEntries {H : Type} : List (Lit × DataW H) → Nat
  | [] => 0
  | x :: r => uptoBulkEntry x + uptoBulkEntries r
def uptoBulkEntry {H : Type} : Lit × DataW H → Nat
  | (.string bytes, d) => bytes.length + uptoBulk d + 1
  | (_, d) => uptoBulk d + 1
 end
def uptoSmall : (H : Type) → List (DataW H) → Bool := fun _ ds => decide (uptoBulkAll ds ≤ 1048576)
def OpenSpec.upto (s : _root_.Go.ChangeSpec) : _root_.Go.OpenSpec := { _root_.Go.OpenSpec.ofChange s with cond := some uptoSmall }

/-- 'laws.FnExactReturnTime', WHERE WHAT IT READS IS OF BULK AT MOST 1048576: true; the input reads as it did. -/
def fnExactReturnTimeUptoRow : OpenClaim := { program := "ytppbjblnbfphnaa", sum := "bb202e41381554d39a3d12fcd8b1a0f1446cd329c3874cf3edcca57174876348", func := "loop.example/g03209/laws.FnExactReturnTime", spec := "fnExactReturnTime", apart := false, narrowed := true }
def FnExactReturnTimeUptoSaid : Prop := fnExactReturnTimeUptoRow.holds Try.pinned (OpenSpec.upto fnExactReturnTimeSpec)

/-- 'laws.FnExactCountIn', WHERE WHAT IT READS IS OF BULK AT MOST 1048576: true; the input reads as it did. -/
def fnExactCountInUptoRow : OpenClaim := { program := "ytppbjblnbfphnaa", sum := "bb202e41381554d39a3d12fcd8b1a0f1446cd329c3874cf3edcca57174876348", func := "loop.example/g03209/laws.FnExactCountIn", spec := "fnExactCountIn", apart := false, narrowed := true }
def FnExactCountInUptoSaid : Prop := fnExactCountInUptoRow.holds Try.pinned (OpenSpec.upto fnExactCountInSpec)

/-- 'laws.FnExactMechanicalWord', WHERE WHAT IT READS IS OF BULK AT MOST 1048576: true; the input reads as it did. -/
def fnExactMechanicalWordUptoRow : OpenClaim := { program := "ytppbjblnbfphnaa", sum := "bb202e41381554d39a3d12fcd8b1a0f1446cd329c3874cf3edcca57174876348", func := "loop.example/g03209/laws.FnExactMechanicalWord", spec := "fnExactMechanicalWord", apart := false, narrowed := true }
def FnExactMechanicalWordUptoSaid : Prop := fnExactMechanicalWordUptoRow.holds Try.pinned (OpenSpec.upto fnExactMechanicalWordSpec)

/-- 'laws.FnExactNearestTo', WHERE WHAT IT READS IS OF BULK AT MOST 1048576: true; the input reads as it did. -/
def fnExactNearestToUptoRow : OpenClaim := { program := "ytppbjblnbfphnaa", sum := "bb202e41381554d39a3d12fcd8b1a0f1446cd329c3874cf3edcca57174876348", func := "loop.example/g03209/laws.FnExactNearestTo", spec := "fnExactNearestTo", apart := false, narrowed := true }
def FnExactNearestToUptoSaid : Prop := fnExactNearestToUptoRow.holds Try.pinned (OpenSpec.upto fnExactNearestToSpec)

/-- 'laws.FnExactIsPalindrome', WHERE WHAT IT READS IS OF BULK AT MOST 1048576: true; the input reads as it did. -/
def fnExactIsPalindromeUptoRow : OpenClaim := { program := "ytppbjblnbfphnaa", sum := "bb202e41381554d39a3d12fcd8b1a0f1446cd329c3874cf3edcca57174876348", func := "loop.example/g03209/laws.FnExactIsPalindrome", spec := "fnExactIsPalindrome", apart := false, narrowed := true }
def FnExactIsPalindromeUptoSaid : Prop := fnExactIsPalindromeUptoRow.holds Try.pinned (OpenSpec.upto fnExactIsPalindromeSpec)

/-- 'laws.FnExactFractionAt', WHERE WHAT IT READS IS OF BULK AT MOST 1048576: true; the input reads as it did. -/
def fnExactFractionAtUptoRow : OpenClaim := { program := "ytppbjblnbfphnaa", sum := "bb202e41381554d39a3d12fcd8b1a0f1446cd329c3874cf3edcca57174876348", func := "loop.example/g03209/laws.FnExactFractionAt", spec := "fnExactFractionAt", apart := false, narrowed := true }
def FnExactFractionAtUptoSaid : Prop := fnExactFractionAtUptoRow.holds Try.pinned (OpenSpec.upto fnExactFractionAtSpec)

end Rows
end Go.Proofs.Ytppbjblnbfphnaa
