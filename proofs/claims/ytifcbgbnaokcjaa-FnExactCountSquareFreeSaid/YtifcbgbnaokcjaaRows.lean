/-
  No cell of these rows narrows 'for every input' (looked for: loops, veiled, ifaces, maps, wideKeys, modest, calm, conditions, laid).
  DERIVED. THE GIVEN ROWS OF THIS SEAT. 12 by the template 'for every input the law returns true; each argument reads behind the call as it read before'; 0 by the template 'total and deterministic' (their statements: YtifcbgbnaokcjaaTotals.lean).
  GIVEN WITH THE SEED: the statements are not yours to turn. If you find one false, say at which input.
  Laid BY PROGRAM, IN A SANDBOX (cutbox-rows.mjs): the forced cells as the released guide's own fill.sh prints them over the translation e35118e1b750c491… (all of the seat's roots in one cut). By AI agents, Wed Nov 11 2026. No macro, syntax, notation, axiom, sorry.
-/
import Derived.Test.YtifcbgbnaokcjaaChecked
import GoSem.Claim
import GoSem.ClaimJoined
import GoSem.ClaimMapViews
import Derived.JoinedTies
import Derived.KernelRfl
namespace Go.Proofs.Ytifcbgbnaokcjaa
/- THE CELL 'sum', in the pinned program and in every row, IS THE sha256 OF THE DUMP (.gsa) THAT YtifcbgbnaokcjaaProg.lean LOADS. Nothing in Lean hashes anything: it is a label: what it is worth is what the hold of that sum in a sandbox is worth. -/
noncomputable def Try.pinned : Pinned := { name := "ytifcbgbnaokcjaa", sum := "e35118e1b750c4912df5754a99340918d43ef751ecc59fe2d42caf556e69ddce", checked := Try.checked }
namespace Rows
def none {H : Type} : Left H := { results := [], args := [] }

/-- 'laws.FnExactIsLyndon': WHATEVER THE INPUT: true; the input reads as it did. -/
def fnExactIsLyndonSpec : ChangeSpec := { name := "fnExactIsLyndon", fn := fun _ => fun
  | [d] => { results := [.lit (.bool true)], args := [d] }
  | _ => none }
def fnExactIsLyndonRow : OpenClaim := { program := "ytifcbgbnaokcjaa", sum := "e35118e1b750c4912df5754a99340918d43ef751ecc59fe2d42caf556e69ddce", func := "loop.example/g03209/laws.FnExactIsLyndon", spec := "fnExactIsLyndon", apart := false }
def FnExactIsLyndonSaid : Prop := fnExactIsLyndonRow.holds Try.pinned (OpenSpec.ofChange fnExactIsLyndonSpec)

/-- ITS FALSE NEIGHBOUR: 'it returns false'. Refute it at one input. -/
def fnExactIsLyndonWrong : ChangeSpec := { name := "fnExactIsLyndon", fn := fun _ => fun
  | [d] => { results := [.lit (.bool false)], args := [d] }
  | _ => none }
def FnExactIsLyndonWrongFalsely : Prop := fnExactIsLyndonRow.holds Try.pinned (OpenSpec.ofChange fnExactIsLyndonWrong)

/-- 'laws.FnExactLongestRun': WHATEVER THE INPUT: true; the input reads as it did. -/
def fnExactLongestRunSpec : ChangeSpec := { name := "fnExactLongestRun", fn := fun _ => fun
  | [d] => { results := [.lit (.bool true)], args := [d] }
  | _ => none }
def fnExactLongestRunRow : OpenClaim := { program := "ytifcbgbnaokcjaa", sum := "e35118e1b750c4912df5754a99340918d43ef751ecc59fe2d42caf556e69ddce", func := "loop.example/g03209/laws.FnExactLongestRun", spec := "fnExactLongestRun", apart := false }
def FnExactLongestRunSaid : Prop := fnExactLongestRunRow.holds Try.pinned (OpenSpec.ofChange fnExactLongestRunSpec)

/-- ITS FALSE NEIGHBOUR: 'it returns false'. Refute it at one input. -/
def fnExactLongestRunWrong : ChangeSpec := { name := "fnExactLongestRun", fn := fun _ => fun
  | [d] => { results := [.lit (.bool false)], args := [d] }
  | _ => none }
def FnExactLongestRunWrongFalsely : Prop := fnExactLongestRunRow.holds Try.pinned (OpenSpec.ofChange fnExactLongestRunWrong)

/-- 'laws.FnExactLeastShift': WHATEVER THE INPUT: true; the input reads as it did. -/
def fnExactLeastShiftSpec : ChangeSpec := { name := "fnExactLeastShift", fn := fun _ => fun
  | [d] => { results := [.lit (.bool true)], args := [d] }
  | _ => none }
def fnExactLeastShiftRow : OpenClaim := { program := "ytifcbgbnaokcjaa", sum := "e35118e1b750c4912df5754a99340918d43ef751ecc59fe2d42caf556e69ddce", func := "loop.example/g03209/laws.FnExactLeastShift", spec := "fnExactLeastShift", apart := false }
def FnExactLeastShiftSaid : Prop := fnExactLeastShiftRow.holds Try.pinned (OpenSpec.ofChange fnExactLeastShiftSpec)

/-- ITS FALSE NEIGHBOUR: 'it returns false'. Refute it at one input. -/
def fnExactLeastShiftWrong : ChangeSpec := { name := "fnExactLeastShift", fn := fun _ => fun
  | [d] => { results := [.lit (.bool false)], args := [d] }
  | _ => none }
def FnExactLeastShiftWrongFalsely : Prop := fnExactLeastShiftRow.holds Try.pinned (OpenSpec.ofChange fnExactLeastShiftWrong)

/-- 'laws.FnExactRootOf': WHATEVER THE INPUT: true; the input reads as it did. -/
def fnExactRootOfSpec : ChangeSpec := { name := "fnExactRootOf", fn := fun _ => fun
  | [d] => { results := [.lit (.bool true)], args := [d] }
  | _ => none }
def fnExactRootOfRow : OpenClaim := { program := "ytifcbgbnaokcjaa", sum := "e35118e1b750c4912df5754a99340918d43ef751ecc59fe2d42caf556e69ddce", func := "loop.example/g03209/laws.FnExactRootOf", spec := "fnExactRootOf", apart := false }
def FnExactRootOfSaid : Prop := fnExactRootOfRow.holds Try.pinned (OpenSpec.ofChange fnExactRootOfSpec)

/-- ITS FALSE NEIGHBOUR: 'it returns false'. Refute it at one input. -/
def fnExactRootOfWrong : ChangeSpec := { name := "fnExactRootOf", fn := fun _ => fun
  | [d] => { results := [.lit (.bool false)], args := [d] }
  | _ => none }
def FnExactRootOfWrongFalsely : Prop := fnExactRootOfRow.holds Try.pinned (OpenSpec.ofChange fnExactRootOfWrong)

/-- 'laws.FnExactFirstSquare': WHATEVER THE INPUT: true; the input reads as it did. -/
def fnExactFirstSquareSpec : ChangeSpec := { name := "fnExactFirstSquare", fn := fun _ => fun
  | [d] => { results := [.lit (.bool true)], args := [d] }
  | _ => none }
def fnExactFirstSquareRow : OpenClaim := { program := "ytifcbgbnaokcjaa", sum := "e35118e1b750c4912df5754a99340918d43ef751ecc59fe2d42caf556e69ddce", func := "loop.example/g03209/laws.FnExactFirstSquare", spec := "fnExactFirstSquare", apart := false }
def FnExactFirstSquareSaid : Prop := fnExactFirstSquareRow.holds Try.pinned (OpenSpec.ofChange fnExactFirstSquareSpec)

/-- ITS FALSE NEIGHBOUR: 'it returns false'. Refute it at one input. -/
def fnExactFirstSquareWrong : ChangeSpec := { name := "fnExactFirstSquare", fn := fun _ => fun
  | [d] => { results := [.lit (.bool false)], args := [d] }
  | _ => none }
def FnExactFirstSquareWrongFalsely : Prop := fnExactFirstSquareRow.holds Try.pinned (OpenSpec.ofChange fnExactFirstSquareWrong)

/-- 'laws.FnExactIsCubeFree': WHATEVER THE INPUT: true; the input reads as it did. -/
def fnExactIsCubeFreeSpec : ChangeSpec := { name := "fnExactIsCubeFree", fn := fun _ => fun
  | [d] => { results := [.lit (.bool true)], args := [d] }
  | _ => none }
def fnExactIsCubeFreeRow : OpenClaim := { program := "ytifcbgbnaokcjaa", sum := "e35118e1b750c4912df5754a99340918d43ef751ecc59fe2d42caf556e69ddce", func := "loop.example/g03209/laws.FnExactIsCubeFree", spec := "fnExactIsCubeFree", apart := false }
def FnExactIsCubeFreeSaid : Prop := fnExactIsCubeFreeRow.holds Try.pinned (OpenSpec.ofChange fnExactIsCubeFreeSpec)

/-- ITS FALSE NEIGHBOUR: 'it returns false'. Refute it at one input. -/
def fnExactIsCubeFreeWrong : ChangeSpec := { name := "fnExactIsCubeFree", fn := fun _ => fun
  | [d] => { results := [.lit (.bool false)], args := [d] }
  | _ => none }
def FnExactIsCubeFreeWrongFalsely : Prop := fnExactIsCubeFreeRow.holds Try.pinned (OpenSpec.ofChange fnExactIsCubeFreeWrong)

/-- 'laws.FnExactIsOverlapFree': WHATEVER THE INPUT: true; the input reads as it did. -/
def fnExactIsOverlapFreeSpec : ChangeSpec := { name := "fnExactIsOverlapFree", fn := fun _ => fun
  | [d] => { results := [.lit (.bool true)], args := [d] }
  | _ => none }
def fnExactIsOverlapFreeRow : OpenClaim := { program := "ytifcbgbnaokcjaa", sum := "e35118e1b750c4912df5754a99340918d43ef751ecc59fe2d42caf556e69ddce", func := "loop.example/g03209/laws.FnExactIsOverlapFree", spec := "fnExactIsOverlapFree", apart := false }
def FnExactIsOverlapFreeSaid : Prop := fnExactIsOverlapFreeRow.holds Try.pinned (OpenSpec.ofChange fnExactIsOverlapFreeSpec)

/-- ITS FALSE NEIGHBOUR: 'it returns false'. Refute it at one input. -/
def fnExactIsOverlapFreeWrong : ChangeSpec := { name := "fnExactIsOverlapFree", fn := fun _ => fun
  | [d] => { results := [.lit (.bool false)], args := [d] }
  | _ => none }
def FnExactIsOverlapFreeWrongFalsely : Prop := fnExactIsOverlapFreeRow.holds Try.pinned (OpenSpec.ofChange fnExactIsOverlapFreeWrong)

/-- 'laws.FnExactIsSquareFree': WHATEVER THE INPUT: true; the input reads as it did. -/
def fnExactIsSquareFreeSpec : ChangeSpec := { name := "fnExactIsSquareFree", fn := fun _ => fun
  | [d] => { results := [.lit (.bool true)], args := [d] }
  | _ => none }
def fnExactIsSquareFreeRow : OpenClaim := { program := "ytifcbgbnaokcjaa", sum := "e35118e1b750c4912df5754a99340918d43ef751ecc59fe2d42caf556e69ddce", func := "loop.example/g03209/laws.FnExactIsSquareFree", spec := "fnExactIsSquareFree", apart := false }
def FnExactIsSquareFreeSaid : Prop := fnExactIsSquareFreeRow.holds Try.pinned (OpenSpec.ofChange fnExactIsSquareFreeSpec)

/-- ITS FALSE NEIGHBOUR: 'it returns false'. Refute it at one input. -/
def fnExactIsSquareFreeWrong : ChangeSpec := { name := "fnExactIsSquareFree", fn := fun _ => fun
  | [d] => { results := [.lit (.bool false)], args := [d] }
  | _ => none }
def FnExactIsSquareFreeWrongFalsely : Prop := fnExactIsSquareFreeRow.holds Try.pinned (OpenSpec.ofChange fnExactIsSquareFreeWrong)

/-- 'laws.FnExactIsPrimitiveWord': WHATEVER THE INPUT: true; the input reads as it did. -/
def fnExactIsPrimitiveWordSpec : ChangeSpec := { name := "fnExactIsPrimitiveWord", fn := fun _ => fun
  | [d] => { results := [.lit (.bool true)], args := [d] }
  | _ => none }
def fnExactIsPrimitiveWordRow : OpenClaim := { program := "ytifcbgbnaokcjaa", sum := "e35118e1b750c4912df5754a99340918d43ef751ecc59fe2d42caf556e69ddce", func := "loop.example/g03209/laws.FnExactIsPrimitiveWord", spec := "fnExactIsPrimitiveWord", apart := false }
def FnExactIsPrimitiveWordSaid : Prop := fnExactIsPrimitiveWordRow.holds Try.pinned (OpenSpec.ofChange fnExactIsPrimitiveWordSpec)

/-- ITS FALSE NEIGHBOUR: 'it returns false'. Refute it at one input. -/
def fnExactIsPrimitiveWordWrong : ChangeSpec := { name := "fnExactIsPrimitiveWord", fn := fun _ => fun
  | [d] => { results := [.lit (.bool false)], args := [d] }
  | _ => none }
def FnExactIsPrimitiveWordWrongFalsely : Prop := fnExactIsPrimitiveWordRow.holds Try.pinned (OpenSpec.ofChange fnExactIsPrimitiveWordWrong)

/-- 'laws.FnExactAllPeriodsFine': WHATEVER THE INPUT: true; the input reads as it did. -/
def fnExactAllPeriodsFineSpec : ChangeSpec := { name := "fnExactAllPeriodsFine", fn := fun _ => fun
  | [d1, d2, d3] => { results := [.lit (.bool true)], args := [d1, d2, d3] }
  | _ => none }
def fnExactAllPeriodsFineRow : OpenClaim := { program := "ytifcbgbnaokcjaa", sum := "e35118e1b750c4912df5754a99340918d43ef751ecc59fe2d42caf556e69ddce", func := "loop.example/g03209/laws.FnExactAllPeriodsFine", spec := "fnExactAllPeriodsFine", unfollowed := true, recurses := true, apart := false }
def FnExactAllPeriodsFineSaid : Prop := fnExactAllPeriodsFineRow.holds Try.pinned (OpenSpec.ofChange fnExactAllPeriodsFineSpec)

/-- ITS FALSE NEIGHBOUR: 'it returns false'. Refute it at one input. -/
def fnExactAllPeriodsFineWrong : ChangeSpec := { name := "fnExactAllPeriodsFine", fn := fun _ => fun
  | [d1, d2, d3] => { results := [.lit (.bool false)], args := [d1, d2, d3] }
  | _ => none }
def FnExactAllPeriodsFineWrongFalsely : Prop := fnExactAllPeriodsFineRow.holds Try.pinned (OpenSpec.ofChange fnExactAllPeriodsFineWrong)

/-- 'laws.FnExactLeastPeriod': WHATEVER THE INPUT: true; the input reads as it did. -/
def fnExactLeastPeriodSpec : ChangeSpec := { name := "fnExactLeastPeriod", fn := fun _ => fun
  | [d] => { results := [.lit (.bool true)], args := [d] }
  | _ => none }
def fnExactLeastPeriodRow : OpenClaim := { program := "ytifcbgbnaokcjaa", sum := "e35118e1b750c4912df5754a99340918d43ef751ecc59fe2d42caf556e69ddce", func := "loop.example/g03209/laws.FnExactLeastPeriod", spec := "fnExactLeastPeriod", apart := false }
def FnExactLeastPeriodSaid : Prop := fnExactLeastPeriodRow.holds Try.pinned (OpenSpec.ofChange fnExactLeastPeriodSpec)

/-- ITS FALSE NEIGHBOUR: 'it returns false'. Refute it at one input. -/
def fnExactLeastPeriodWrong : ChangeSpec := { name := "fnExactLeastPeriod", fn := fun _ => fun
  | [d] => { results := [.lit (.bool false)], args := [d] }
  | _ => none }
def FnExactLeastPeriodWrongFalsely : Prop := fnExactLeastPeriodRow.holds Try.pinned (OpenSpec.ofChange fnExactLeastPeriodWrong)

/-- 'laws.FnExactCountSquareFree': WHATEVER THE INPUT: true; the input reads as it did. -/
def fnExactCountSquareFreeSpec : ChangeSpec := { name := "fnExactCountSquareFree", fn := fun _ => fun
  | [d1, d2] => { results := [.lit (.bool true)], args := [d1, d2] }
  | _ => none }
def fnExactCountSquareFreeRow : OpenClaim := { program := "ytifcbgbnaokcjaa", sum := "e35118e1b750c4912df5754a99340918d43ef751ecc59fe2d42caf556e69ddce", func := "loop.example/g03209/laws.FnExactCountSquareFree", spec := "fnExactCountSquareFree", recurses := true, apart := false }
def FnExactCountSquareFreeSaid : Prop := fnExactCountSquareFreeRow.holds Try.pinned (OpenSpec.ofChange fnExactCountSquareFreeSpec)

/-- ITS FALSE NEIGHBOUR: 'it returns false'. Refute it at one input. -/
def fnExactCountSquareFreeWrong : ChangeSpec := { name := "fnExactCountSquareFree", fn := fun _ => fun
  | [d1, d2] => { results := [.lit (.bool false)], args := [d1, d2] }
  | _ => none }
def FnExactCountSquareFreeWrongFalsely : Prop := fnExactCountSquareFreeRow.holds Try.pinned (OpenSpec.ofChange fnExactCountSquareFreeWrong)

/- THE SECOND FORM. 'bulk': how many values and letters a reading holds, each counted each time it is reached (what is shared counts as often as it is met; a slice's spare places count too). A statement '..UptoSaid' is the law's where the arguments, and the package variables that the reading takes, are together of bulk at most 1048576: NARROWER than '..Said'. Prove '..Said' where nothing that the law and all that it calls make is longer than what came in: it says more and counts as full. Else prove '..UptoSaid'. A law counts once. -/
mutual
def uptoBulk {H : Type} : DataW H → Nat
  | .lit (.string bytes) => bytes.length + 1
  | .lit _ => 1
  | .nil => 1
  | .ptr d => uptoBulk d + 1
  | .slice elems spare => uptoBulkAll elems + uptoBulkAll spare + 1
  | .agg parts => uptoBulkAll parts + 1
  | .iface _ d => uptoBulk d + 1
  | .map entries => uptoBulkEntries entries + 1
  | .held _ => 1
def uptoBulkAll {H : Type} : List (DataW H) → Nat
  | [] => 0
  | d :: r => uptoBulk d + uptoBulkAll r
def uptoBulkEntries {H : Type} : List (Lit × DataW H) → Nat
  | [] => 0
  | x :: r => uptoBulkEntry x + uptoBulkEntries r
def uptoBulkEntry {H : Type} : Lit × DataW H → Nat
  | (.string bytes, d) => bytes.length + uptoBulk d + 1
  | (_, d) => uptoBulk d + 1
 end
def uptoSmall : (H : Type) → List (DataW H) → Bool := fun _ ds => decide (uptoBulkAll ds ≤ 1048576)
def OpenSpec.upto (s : _root_.Go.ChangeSpec) : _root_.Go.OpenSpec := { _root_.Go.OpenSpec.ofChange s with cond := some uptoSmall }

/-- 'laws.FnExactIsLyndon', WHERE WHAT IT READS IS OF BULK AT MOST 1048576: true; the input reads as it did. -/
def fnExactIsLyndonUptoRow : OpenClaim := { program := "ytifcbgbnaokcjaa", sum := "e35118e1b750c4912df5754a99340918d43ef751ecc59fe2d42caf556e69ddce", func := "loop.example/g03209/laws.FnExactIsLyndon", spec := "fnExactIsLyndon", apart := false, narrowed := true }
def FnExactIsLyndonUptoSaid : Prop := fnExactIsLyndonUptoRow.holds Try.pinned (OpenSpec.upto fnExactIsLyndonSpec)

/-- 'laws.FnExactLongestRun', WHERE WHAT IT READS IS OF BULK AT MOST 1048576: true; the input reads as it did. -/
def fnExactLongestRunUptoRow : OpenClaim := { program := "ytifcbgbnaokcjaa", sum := "e35118e1b750c4912df5754a99340918d43ef751ecc59fe2d42caf556e69ddce", func := "loop.example/g03209/laws.FnExactLongestRun", spec := "fnExactLongestRun", apart := false, narrowed := true }
def FnExactLongestRunUptoSaid : Prop := fnExactLongestRunUptoRow.holds Try.pinned (OpenSpec.upto fnExactLongestRunSpec)

/-- 'laws.FnExactLeastShift', WHERE WHAT IT READS IS OF BULK AT MOST 1048576: true; the input reads as it did. -/
def fnExactLeastShiftUptoRow : OpenClaim := { program := "ytifcbgbnaokcjaa", sum := "e35118e1b750c4912df5754a99340918d43ef751ecc59fe2d42caf556e69ddce", func := "loop.example/g03209/laws.FnExactLeastShift", spec := "fnExactLeastShift", apart := false, narrowed := true }
def FnExactLeastShiftUptoSaid : Prop := fnExactLeastShiftUptoRow.holds Try.pinned (OpenSpec.upto fnExactLeastShiftSpec)

/-- 'laws.FnExactRootOf', WHERE WHAT IT READS IS OF BULK AT MOST 1048576: true; the input reads as it did. -/
def fnExactRootOfUptoRow : OpenClaim := { program := "ytifcbgbnaokcjaa", sum := "e35118e1b750c4912df5754a99340918d43ef751ecc59fe2d42caf556e69ddce", func := "loop.example/g03209/laws.FnExactRootOf", spec := "fnExactRootOf", apart := false, narrowed := true }
def FnExactRootOfUptoSaid : Prop := fnExactRootOfUptoRow.holds Try.pinned (OpenSpec.upto fnExactRootOfSpec)

/-- 'laws.FnExactFirstSquare', WHERE WHAT IT READS IS OF BULK AT MOST 1048576: true; the input reads as it did. -/
def fnExactFirstSquareUptoRow : OpenClaim := { program := "ytifcbgbnaokcjaa", sum := "e35118e1b750c4912df5754a99340918d43ef751ecc59fe2d42caf556e69ddce", func := "loop.example/g03209/laws.FnExactFirstSquare", spec := "fnExactFirstSquare", apart := false, narrowed := true }
def FnExactFirstSquareUptoSaid : Prop := fnExactFirstSquareUptoRow.holds Try.pinned (OpenSpec.upto fnExactFirstSquareSpec)

/-- 'laws.FnExactIsCubeFree', WHERE WHAT IT READS IS OF BULK AT MOST 1048576: true; the input reads as it did. -/
def fnExactIsCubeFreeUptoRow : OpenClaim := { program := "ytifcbgbnaokcjaa", sum := "e35118e1b750c4912df5754a99340918d43ef751ecc59fe2d42caf556e69ddce", func := "loop.example/g03209/laws.FnExactIsCubeFree", spec := "fnExactIsCubeFree", apart := false, narrowed := true }
def FnExactIsCubeFreeUptoSaid : Prop := fnExactIsCubeFreeUptoRow.holds Try.pinned (OpenSpec.upto fnExactIsCubeFreeSpec)

/-- 'laws.FnExactIsOverlapFree', WHERE WHAT IT READS IS OF BULK AT MOST 1048576: true; the input reads as it did. -/
def fnExactIsOverlapFreeUptoRow : OpenClaim := { program := "ytifcbgbnaokcjaa", sum := "e35118e1b750c4912df5754a99340918d43ef751ecc59fe2d42caf556e69ddce", func := "loop.example/g03209/laws.FnExactIsOverlapFree", spec := "fnExactIsOverlapFree", apart := false, narrowed := true }
def FnExactIsOverlapFreeUptoSaid : Prop := fnExactIsOverlapFreeUptoRow.holds Try.pinned (OpenSpec.upto fnExactIsOverlapFreeSpec)

/-- 'laws.FnExactIsSquareFree', WHERE WHAT IT READS IS OF BULK AT MOST 1048576: true; the input reads as it did. -/
def fnExactIsSquareFreeUptoRow : OpenClaim := { program := "ytifcbgbnaokcjaa", sum := "e35118e1b750c4912df5754a99340918d43ef751ecc59fe2d42caf556e69ddce", func := "loop.example/g03209/laws.FnExactIsSquareFree", spec := "fnExactIsSquareFree", apart := false, narrowed := true }
def FnExactIsSquareFreeUptoSaid : Prop := fnExactIsSquareFreeUptoRow.holds Try.pinned (OpenSpec.upto fnExactIsSquareFreeSpec)

/-- 'laws.FnExactIsPrimitiveWord', WHERE WHAT IT READS IS OF BULK AT MOST 1048576: true; the input reads as it did. -/
def fnExactIsPrimitiveWordUptoRow : OpenClaim := { program := "ytifcbgbnaokcjaa", sum := "e35118e1b750c4912df5754a99340918d43ef751ecc59fe2d42caf556e69ddce", func := "loop.example/g03209/laws.FnExactIsPrimitiveWord", spec := "fnExactIsPrimitiveWord", apart := false, narrowed := true }
def FnExactIsPrimitiveWordUptoSaid : Prop := fnExactIsPrimitiveWordUptoRow.holds Try.pinned (OpenSpec.upto fnExactIsPrimitiveWordSpec)

/-- 'laws.FnExactAllPeriodsFine', WHERE WHAT IT READS IS OF BULK AT MOST 1048576: true; the input reads as it did. -/
def fnExactAllPeriodsFineUptoRow : OpenClaim := { program := "ytifcbgbnaokcjaa", sum := "e35118e1b750c4912df5754a99340918d43ef751ecc59fe2d42caf556e69ddce", func := "loop.example/g03209/laws.FnExactAllPeriodsFine", spec := "fnExactAllPeriodsFine", unfollowed := true, recurses := true, apart := false, narrowed := true }
def FnExactAllPeriodsFineUptoSaid : Prop := fnExactAllPeriodsFineUptoRow.holds Try.pinned (OpenSpec.upto fnExactAllPeriodsFineSpec)

/-- 'laws.FnExactLeastPeriod', WHERE WHAT IT READS IS OF BULK AT MOST 1048576: true; the input reads as it did. -/
def fnExactLeastPeriodUptoRow : OpenClaim := { program := "ytifcbgbnaokcjaa", sum := "e35118e1b750c4912df5754a99340918d43ef751ecc59fe2d42caf556e69ddce", func := "loop.example/g03209/laws.FnExactLeastPeriod", spec := "fnExactLeastPeriod", apart := false, narrowed := true }
def FnExactLeastPeriodUptoSaid : Prop := fnExactLeastPeriodUptoRow.holds Try.pinned (OpenSpec.upto fnExactLeastPeriodSpec)

/-- 'laws.FnExactCountSquareFree', WHERE WHAT IT READS IS OF BULK AT MOST 1048576: true; the input reads as it did. -/
def fnExactCountSquareFreeUptoRow : OpenClaim := { program := "ytifcbgbnaokcjaa", sum := "e35118e1b750c4912df5754a99340918d43ef751ecc59fe2d42caf556e69ddce", func := "loop.example/g03209/laws.FnExactCountSquareFree", spec := "fnExactCountSquareFree", recurses := true, apart := false, narrowed := true }
def FnExactCountSquareFreeUptoSaid : Prop := fnExactCountSquareFreeUptoRow.holds Try.pinned (OpenSpec.upto fnExactCountSquareFreeSpec)

end Rows
end Go.Proofs.Ytifcbgbnaokcjaa
