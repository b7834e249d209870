/-
  No cell of these rows narrows 'for every input' (looked for: loops, veiled, ifaces, maps, wideKeys, modest, calm, conditions, laid).
  DERIVED. THE GIVEN ROWS OF THIS SEAT. 12 by the template 'for every input the law returns true; each argument reads behind the call as it read before'; 0 by the template 'total and deterministic' (their statements: YticbdpkmpnechaaTotals.lean).
  GIVEN WITH THE SEED: the statements are not yours to turn. If you find one false, say at which input.
  Laid BY PROGRAM, IN A SANDBOX (cutbox-rows.mjs): the forced cells as the released guide's own fill.sh prints them over the translation 3e85bf305b66110a… (all of the seat's roots in one cut). By AI agents, Wed Nov 11 2026. No macro, syntax, notation, axiom, sorry.
-/
import Derived.Test.YticbdpkmpnechaaChecked
import GoSem.Claim
import GoSem.ClaimJoined
import GoSem.ClaimMapViews
import Derived.JoinedTies
import Derived.KernelRfl
namespace Go.Proofs.Yticbdpkmpnechaa
/- THE CELL 'sum', in the pinned program and in every row, IS THE sha256 OF THE DUMP (.gsa) THAT YticbdpkmpnechaaProg.lean LOADS. Nothing in Lean hashes anything: it is a label: what it is worth is what the hold of that sum in a sandbox is worth. -/
noncomputable def Try.pinned : Pinned := { name := "yticbdpkmpnechaa", sum := "3e85bf305b66110aafb5f9059c2c5dd6e9087491b8f09371759c5e7c5ab49282", checked := Try.checked }
namespace Rows
def none {H : Type} : Left H := { results := [], args := [] }

/-- 'laws.FnExactPointsOf': WHATEVER THE INPUT: true; the input reads as it did. -/
def fnExactPointsOfSpec : ChangeSpec := { name := "fnExactPointsOf", fn := fun _ => fun
  | [d1, d2, d3] => { results := [.lit (.bool true)], args := [d1, d2, d3] }
  | _ => none }
def fnExactPointsOfRow : OpenClaim := { program := "yticbdpkmpnechaa", sum := "3e85bf305b66110aafb5f9059c2c5dd6e9087491b8f09371759c5e7c5ab49282", func := "loop.example/g03209/laws.FnExactPointsOf", spec := "fnExactPointsOf", recurses := true, apart := false }
def FnExactPointsOfSaid : Prop := fnExactPointsOfRow.holds Try.pinned (OpenSpec.ofChange fnExactPointsOfSpec)

/-- ITS FALSE NEIGHBOUR: 'it returns false'. Refute it at one input. -/
def fnExactPointsOfWrong : ChangeSpec := { name := "fnExactPointsOf", fn := fun _ => fun
  | [d1, d2, d3] => { results := [.lit (.bool false)], args := [d1, d2, d3] }
  | _ => none }
def FnExactPointsOfWrongFalsely : Prop := fnExactPointsOfRow.holds Try.pinned (OpenSpec.ofChange fnExactPointsOfWrong)

/-- 'laws.FnExactGapsOf': WHATEVER THE INPUT: true; the input reads as it did. -/
def fnExactGapsOfSpec : ChangeSpec := { name := "fnExactGapsOf", fn := fun _ => fun
  | [d1, d2, d3] => { results := [.lit (.bool true)], args := [d1, d2, d3] }
  | _ => none }
def fnExactGapsOfRow : OpenClaim := { program := "yticbdpkmpnechaa", sum := "3e85bf305b66110aafb5f9059c2c5dd6e9087491b8f09371759c5e7c5ab49282", func := "loop.example/g03209/laws.FnExactGapsOf", spec := "fnExactGapsOf", recurses := true, apart := false }
def FnExactGapsOfSaid : Prop := fnExactGapsOfRow.holds Try.pinned (OpenSpec.ofChange fnExactGapsOfSpec)

/-- ITS FALSE NEIGHBOUR: 'it returns false'. Refute it at one input. -/
def fnExactGapsOfWrong : ChangeSpec := { name := "fnExactGapsOf", fn := fun _ => fun
  | [d1, d2, d3] => { results := [.lit (.bool false)], args := [d1, d2, d3] }
  | _ => none }
def FnExactGapsOfWrongFalsely : Prop := fnExactGapsOfRow.holds Try.pinned (OpenSpec.ofChange fnExactGapsOfWrong)

/-- 'laws.FnExactGapLengths': WHATEVER THE INPUT: true; the input reads as it did. -/
def fnExactGapLengthsSpec : ChangeSpec := { name := "fnExactGapLengths", fn := fun _ => fun
  | [d1, d2, d3] => { results := [.lit (.bool true)], args := [d1, d2, d3] }
  | _ => none }
def fnExactGapLengthsRow : OpenClaim := { program := "yticbdpkmpnechaa", sum := "3e85bf305b66110aafb5f9059c2c5dd6e9087491b8f09371759c5e7c5ab49282", func := "loop.example/g03209/laws.FnExactGapLengths", spec := "fnExactGapLengths", recurses := true, apart := false }
def FnExactGapLengthsSaid : Prop := fnExactGapLengthsRow.holds Try.pinned (OpenSpec.ofChange fnExactGapLengthsSpec)

/-- ITS FALSE NEIGHBOUR: 'it returns false'. Refute it at one input. -/
def fnExactGapLengthsWrong : ChangeSpec := { name := "fnExactGapLengths", fn := fun _ => fun
  | [d1, d2, d3] => { results := [.lit (.bool false)], args := [d1, d2, d3] }
  | _ => none }
def FnExactGapLengthsWrongFalsely : Prop := fnExactGapLengthsRow.holds Try.pinned (OpenSpec.ofChange fnExactGapLengthsWrong)

/-- 'laws.FnExactReturnTimes': WHATEVER THE INPUT: true; the input reads as it did. -/
def fnExactReturnTimesSpec : ChangeSpec := { name := "fnExactReturnTimes", fn := fun _ => fun
  | [d1, d2, d3, d4] => { results := [.lit (.bool true)], args := [d1, d2, d3, d4] }
  | _ => none }
def fnExactReturnTimesRow : OpenClaim := { program := "yticbdpkmpnechaa", sum := "3e85bf305b66110aafb5f9059c2c5dd6e9087491b8f09371759c5e7c5ab49282", func := "loop.example/g03209/laws.FnExactReturnTimes", spec := "fnExactReturnTimes", recurses := true, apart := false }
def FnExactReturnTimesSaid : Prop := fnExactReturnTimesRow.holds Try.pinned (OpenSpec.ofChange fnExactReturnTimesSpec)

/-- ITS FALSE NEIGHBOUR: 'it returns false'. Refute it at one input. -/
def fnExactReturnTimesWrong : ChangeSpec := { name := "fnExactReturnTimes", fn := fun _ => fun
  | [d1, d2, d3, d4] => { results := [.lit (.bool false)], args := [d1, d2, d3, d4] }
  | _ => none }
def FnExactReturnTimesWrongFalsely : Prop := fnExactReturnTimesRow.holds Try.pinned (OpenSpec.ofChange fnExactReturnTimesWrong)

/-- 'laws.FnExactDefectOf': WHATEVER THE INPUT: true; the input reads as it did. -/
def fnExactDefectOfSpec : ChangeSpec := { name := "fnExactDefectOf", fn := fun _ => fun
  | [d] => { results := [.lit (.bool true)], args := [d] }
  | _ => none }
def fnExactDefectOfRow : OpenClaim := { program := "yticbdpkmpnechaa", sum := "3e85bf305b66110aafb5f9059c2c5dd6e9087491b8f09371759c5e7c5ab49282", func := "loop.example/g03209/laws.FnExactDefectOf", spec := "fnExactDefectOf", recurses := true, apart := false }
def FnExactDefectOfSaid : Prop := fnExactDefectOfRow.holds Try.pinned (OpenSpec.ofChange fnExactDefectOfSpec)

/-- ITS FALSE NEIGHBOUR: 'it returns false'. Refute it at one input. -/
def fnExactDefectOfWrong : ChangeSpec := { name := "fnExactDefectOf", fn := fun _ => fun
  | [d] => { results := [.lit (.bool false)], args := [d] }
  | _ => none }
def FnExactDefectOfWrongFalsely : Prop := fnExactDefectOfRow.holds Try.pinned (OpenSpec.ofChange fnExactDefectOfWrong)

/-- 'laws.FnExactIsRich': WHATEVER THE INPUT: true; the input reads as it did. -/
def fnExactIsRichSpec : ChangeSpec := { name := "fnExactIsRich", fn := fun _ => fun
  | [d] => { results := [.lit (.bool true)], args := [d] }
  | _ => none }
def fnExactIsRichRow : OpenClaim := { program := "yticbdpkmpnechaa", sum := "3e85bf305b66110aafb5f9059c2c5dd6e9087491b8f09371759c5e7c5ab49282", func := "loop.example/g03209/laws.FnExactIsRich", spec := "fnExactIsRich", recurses := true, apart := false }
def FnExactIsRichSaid : Prop := fnExactIsRichRow.holds Try.pinned (OpenSpec.ofChange fnExactIsRichSpec)

/-- ITS FALSE NEIGHBOUR: 'it returns false'. Refute it at one input. -/
def fnExactIsRichWrong : ChangeSpec := { name := "fnExactIsRich", fn := fun _ => fun
  | [d] => { results := [.lit (.bool false)], args := [d] }
  | _ => none }
def FnExactIsRichWrongFalsely : Prop := fnExactIsRichRow.holds Try.pinned (OpenSpec.ofChange fnExactIsRichWrong)

/-- 'laws.FnExactPalindromesIn': WHATEVER THE INPUT: true; the input reads as it did. -/
def fnExactPalindromesInSpec : ChangeSpec := { name := "fnExactPalindromesIn", fn := fun _ => fun
  | [d] => { results := [.lit (.bool true)], args := [d] }
  | _ => none }
def fnExactPalindromesInRow : OpenClaim := { program := "yticbdpkmpnechaa", sum := "3e85bf305b66110aafb5f9059c2c5dd6e9087491b8f09371759c5e7c5ab49282", func := "loop.example/g03209/laws.FnExactPalindromesIn", spec := "fnExactPalindromesIn", recurses := true, apart := false }
def FnExactPalindromesInSaid : Prop := fnExactPalindromesInRow.holds Try.pinned (OpenSpec.ofChange fnExactPalindromesInSpec)

/-- ITS FALSE NEIGHBOUR: 'it returns false'. Refute it at one input. -/
def fnExactPalindromesInWrong : ChangeSpec := { name := "fnExactPalindromesIn", fn := fun _ => fun
  | [d] => { results := [.lit (.bool false)], args := [d] }
  | _ => none }
def FnExactPalindromesInWrongFalsely : Prop := fnExactPalindromesInRow.holds Try.pinned (OpenSpec.ofChange fnExactPalindromesInWrong)

/-- 'laws.FnExactIsClosedUnderTurn': WHATEVER THE INPUT: true; the input reads as it did. -/
def fnExactIsClosedUnderTurnSpec : ChangeSpec := { name := "fnExactIsClosedUnderTurn", fn := fun _ => fun
  | [d1, d2] => { results := [.lit (.bool true)], args := [d1, d2] }
  | _ => none }
def fnExactIsClosedUnderTurnRow : OpenClaim := { program := "yticbdpkmpnechaa", sum := "3e85bf305b66110aafb5f9059c2c5dd6e9087491b8f09371759c5e7c5ab49282", func := "loop.example/g03209/laws.FnExactIsClosedUnderTurn", spec := "fnExactIsClosedUnderTurn", recurses := true, apart := false }
def FnExactIsClosedUnderTurnSaid : Prop := fnExactIsClosedUnderTurnRow.holds Try.pinned (OpenSpec.ofChange fnExactIsClosedUnderTurnSpec)

/-- ITS FALSE NEIGHBOUR: 'it returns false'. Refute it at one input. -/
def fnExactIsClosedUnderTurnWrong : ChangeSpec := { name := "fnExactIsClosedUnderTurn", fn := fun _ => fun
  | [d1, d2] => { results := [.lit (.bool false)], args := [d1, d2] }
  | _ => none }
def FnExactIsClosedUnderTurnWrongFalsely : Prop := fnExactIsClosedUnderTurnRow.holds Try.pinned (OpenSpec.ofChange fnExactIsClosedUnderTurnWrong)

/-- 'laws.FnExactSquaresIn': WHATEVER THE INPUT: true; the input reads as it did. -/
def fnExactSquaresInSpec : ChangeSpec := { name := "fnExactSquaresIn", fn := fun _ => fun
  | [d] => { results := [.lit (.bool true)], args := [d] }
  | _ => none }
def fnExactSquaresInRow : OpenClaim := { program := "yticbdpkmpnechaa", sum := "3e85bf305b66110aafb5f9059c2c5dd6e9087491b8f09371759c5e7c5ab49282", func := "loop.example/g03209/laws.FnExactSquaresIn", spec := "fnExactSquaresIn", recurses := true, apart := false }
def FnExactSquaresInSaid : Prop := fnExactSquaresInRow.holds Try.pinned (OpenSpec.ofChange fnExactSquaresInSpec)

/-- ITS FALSE NEIGHBOUR: 'it returns false'. Refute it at one input. -/
def fnExactSquaresInWrong : ChangeSpec := { name := "fnExactSquaresIn", fn := fun _ => fun
  | [d] => { results := [.lit (.bool false)], args := [d] }
  | _ => none }
def FnExactSquaresInWrongFalsely : Prop := fnExactSquaresInRow.holds Try.pinned (OpenSpec.ofChange fnExactSquaresInWrong)

/-- 'laws.FnExactGreatestExponent': WHATEVER THE INPUT: true; the input reads as it did. -/
def fnExactGreatestExponentSpec : ChangeSpec := { name := "fnExactGreatestExponent", fn := fun _ => fun
  | [d] => { results := [.lit (.bool true)], args := [d] }
  | _ => none }
def fnExactGreatestExponentRow : OpenClaim := { program := "yticbdpkmpnechaa", sum := "3e85bf305b66110aafb5f9059c2c5dd6e9087491b8f09371759c5e7c5ab49282", func := "loop.example/g03209/laws.FnExactGreatestExponent", spec := "fnExactGreatestExponent", recurses := true, apart := false }
def FnExactGreatestExponentSaid : Prop := fnExactGreatestExponentRow.holds Try.pinned (OpenSpec.ofChange fnExactGreatestExponentSpec)

/-- ITS FALSE NEIGHBOUR: 'it returns false'. Refute it at one input. -/
def fnExactGreatestExponentWrong : ChangeSpec := { name := "fnExactGreatestExponent", fn := fun _ => fun
  | [d] => { results := [.lit (.bool false)], args := [d] }
  | _ => none }
def FnExactGreatestExponentWrongFalsely : Prop := fnExactGreatestExponentRow.holds Try.pinned (OpenSpec.ofChange fnExactGreatestExponentWrong)

/-- 'laws.FnExactFirstUnbalance': WHATEVER THE INPUT: true; the input reads as it did. -/
def fnExactFirstUnbalanceSpec : ChangeSpec := { name := "fnExactFirstUnbalance", fn := fun _ => fun
  | [d] => { results := [.lit (.bool true)], args := [d] }
  | _ => none }
def fnExactFirstUnbalanceRow : OpenClaim := { program := "yticbdpkmpnechaa", sum := "3e85bf305b66110aafb5f9059c2c5dd6e9087491b8f09371759c5e7c5ab49282", func := "loop.example/g03209/laws.FnExactFirstUnbalance", spec := "fnExactFirstUnbalance", inPlace := ["internal/bytealg.IndexByteString", "internal/bytealg.IndexString"], recurses := true, named := ["internal/bytealg.MaxLen"], apart := false }
def FnExactFirstUnbalanceSaid : Prop := fnExactFirstUnbalanceRow.holds Try.pinned (OpenSpec.ofChange fnExactFirstUnbalanceSpec)

/-- ITS FALSE NEIGHBOUR: 'it returns false'. Refute it at one input. -/
def fnExactFirstUnbalanceWrong : ChangeSpec := { name := "fnExactFirstUnbalance", fn := fun _ => fun
  | [d] => { results := [.lit (.bool false)], args := [d] }
  | _ => none }
def FnExactFirstUnbalanceWrongFalsely : Prop := fnExactFirstUnbalanceRow.holds Try.pinned (OpenSpec.ofChange fnExactFirstUnbalanceWrong)

/-- 'laws.FnGaps': WHATEVER THE INPUT: true; the input reads as it did. -/
def fnGapsSpec : ChangeSpec := { name := "fnGaps", fn := fun _ => fun
  | [d] => { results := [.lit (.bool true)], args := [d] }
  | _ => none }
def fnGapsRow : OpenClaim := { program := "yticbdpkmpnechaa", sum := "3e85bf305b66110aafb5f9059c2c5dd6e9087491b8f09371759c5e7c5ab49282", func := "loop.example/g03209/laws.FnGaps", spec := "fnGaps", recurses := true, apart := false }
def FnGapsSaid : Prop := fnGapsRow.holds Try.pinned (OpenSpec.ofChange fnGapsSpec)

/-- ITS FALSE NEIGHBOUR: 'it returns false'. Refute it at one input. -/
def fnGapsWrong : ChangeSpec := { name := "fnGaps", fn := fun _ => fun
  | [d] => { results := [.lit (.bool false)], args := [d] }
  | _ => none }
def FnGapsWrongFalsely : Prop := fnGapsRow.holds Try.pinned (OpenSpec.ofChange fnGapsWrong)

/- THE SECOND FORM. 'bulk': how many values and letters a reading holds, each counted each time it is reached (what is shared counts as often as it is met; a slice's spare places count too). A statement '..UptoSaid' is the law's where the arguments, and the package variables that the reading takes, are together of bulk at most 1048576: NARROWER than '..Said'. Prove '..Said' where nothing that the law and all that it calls make is longer than what came in: it says more and counts as full. Else prove '..UptoSaid'. A law counts once. -/
mutual
def uptoBulk {H : Type} : DataW H → Nat
  | .lit (.string bytes) => bytes.length + 1
  | .lit _ => 1
  | .nil => 1
  | .ptr d => uptoBulk d + 1
  | .slice elems spare => uptoBulkAll elems + uptoBulkAll spare + 1
  | .agg parts => uptoBulkAll parts + 1
  | .iface _ d => uptoBulk d + 1
  | .map entries => uptoBulkEntries entries + 1
  | .held _ => 1
def uptoBulkAll {H : Type} : List (DataW H) → Nat
  | [] => 0
  | d :: r => uptoBulk d + uptoBulkAll r
def uptoBulkEntries {H : Type} : List (Lit × DataW H) → Nat
  | [] => 0
  | x :: r => uptoBulkEntry x + uptoBulkEntries r
def uptoBulkEntry {H : Type} : Lit × DataW H → Nat
  | (.string bytes, d) => bytes.length + uptoBulk d + 1
  | (_, d) => uptoBulk d + 1
 end
def uptoSmall : (H : Type) → List (DataW H) → Bool := fun _ ds => decide (uptoBulkAll ds ≤ 1048576)
def OpenSpec.upto (s : _root_.Go.ChangeSpec) : _root_.Go.OpenSpec := { _root_.Go.OpenSpec.ofChange s with cond := some uptoSmall }

/-- 'laws.FnExactPointsOf', WHERE WHAT IT READS IS OF BULK AT MOST 1048576: true; the input reads as it did. -/
def fnExactPointsOfUptoRow : OpenClaim := { program := "yticbdpkmpnechaa", sum := "3e85bf305b66110aafb5f9059c2c5dd6e9087491b8f09371759c5e7c5ab49282", func := "loop.example/g03209/laws.FnExactPointsOf", spec := "fnExactPointsOf", recurses := true, apart := false, narrowed := true }
def FnExactPointsOfUptoSaid : Prop := fnExactPointsOfUptoRow.holds Try.pinned (OpenSpec.upto fnExactPointsOfSpec)

/-- 'laws.FnExactGapsOf', WHERE WHAT IT READS IS OF BULK AT MOST 1048576: true; the input reads as it did. -/
def fnExactGapsOfUptoRow : OpenClaim := { program := "yticbdpkmpnechaa", sum := "3e85bf305b66110aafb5f9059c2c5dd6e9087491b8f09371759c5e7c5ab49282", func := "loop.example/g03209/laws.FnExactGapsOf", spec := "fnExactGapsOf", recurses := true, apart := false, narrowed := true }
def FnExactGapsOfUptoSaid : Prop := fnExactGapsOfUptoRow.holds Try.pinned (OpenSpec.upto fnExactGapsOfSpec)

/-- 'laws.FnExactGapLengths', WHERE WHAT IT READS IS OF BULK AT MOST 1048576: true; the input reads as it did. -/
def fnExactGapLengthsUptoRow : OpenClaim := { program := "yticbdpkmpnechaa", sum := "3e85bf305b66110aafb5f9059c2c5dd6e9087491b8f09371759c5e7c5ab49282", func := "loop.example/g03209/laws.FnExactGapLengths", spec := "fnExactGapLengths", recurses := true, apart := false, narrowed := true }
def FnExactGapLengthsUptoSaid : Prop := fnExactGapLengthsUptoRow.holds Try.pinned (OpenSpec.upto fnExactGapLengthsSpec)

/-- 'laws.FnExactReturnTimes', WHERE WHAT IT READS IS OF BULK AT MOST 1048576: true; the input reads as it did. -/
def fnExactReturnTimesUptoRow : OpenClaim := { program := "yticbdpkmpnechaa", sum := "3e85bf305b66110aafb5f9059c2c5dd6e9087491b8f09371759c5e7c5ab49282", func := "loop.example/g03209/laws.FnExactReturnTimes", spec := "fnExactReturnTimes", recurses := true, apart := false, narrowed := true }
def FnExactReturnTimesUptoSaid : Prop := fnExactReturnTimesUptoRow.holds Try.pinned (OpenSpec.upto fnExactReturnTimesSpec)

/-- 'laws.FnExactDefectOf', WHERE WHAT IT READS IS OF BULK AT MOST 1048576: true; the input reads as it did. -/
def fnExactDefectOfUptoRow : OpenClaim := { program := "yticbdpkmpnechaa", sum := "3e85bf305b66110aafb5f9059c2c5dd6e9087491b8f09371759c5e7c5ab49282", func := "loop.example/g03209/laws.FnExactDefectOf", spec := "fnExactDefectOf", recurses := true, apart := false, narrowed := true }
def FnExactDefectOfUptoSaid : Prop := fnExactDefectOfUptoRow.holds Try.pinned (OpenSpec.upto fnExactDefectOfSpec)

/-- 'laws.FnExactIsRich', WHERE WHAT IT READS IS OF BULK AT MOST 1048576: true; the input reads as it did. -/
def fnExactIsRichUptoRow : OpenClaim := { program := "yticbdpkmpnechaa", sum := "3e85bf305b66110aafb5f9059c2c5dd6e9087491b8f09371759c5e7c5ab49282", func := "loop.example/g03209/laws.FnExactIsRich", spec := "fnExactIsRich", recurses := true, apart := false, narrowed := true }
def FnExactIsRichUptoSaid : Prop := fnExactIsRichUptoRow.holds Try.pinned (OpenSpec.upto fnExactIsRichSpec)

/-- 'laws.FnExactPalindromesIn', WHERE WHAT IT READS IS OF BULK AT MOST 1048576: true; the input reads as it did. -/
def fnExactPalindromesInUptoRow : OpenClaim := { program := "yticbdpkmpnechaa", sum := "3e85bf305b66110aafb5f9059c2c5dd6e9087491b8f09371759c5e7c5ab49282", func := "loop.example/g03209/laws.FnExactPalindromesIn", spec := "fnExactPalindromesIn", recurses := true, apart := false, narrowed := true }
def FnExactPalindromesInUptoSaid : Prop := fnExactPalindromesInUptoRow.holds Try.pinned (OpenSpec.upto fnExactPalindromesInSpec)

/-- 'laws.FnExactIsClosedUnderTurn', WHERE WHAT IT READS IS OF BULK AT MOST 1048576: true; the input reads as it did. -/
def fnExactIsClosedUnderTurnUptoRow : OpenClaim := { program := "yticbdpkmpnechaa", sum := "3e85bf305b66110aafb5f9059c2c5dd6e9087491b8f09371759c5e7c5ab49282", func := "loop.example/g03209/laws.FnExactIsClosedUnderTurn", spec := "fnExactIsClosedUnderTurn", recurses := true, apart := false, narrowed := true }
def FnExactIsClosedUnderTurnUptoSaid : Prop := fnExactIsClosedUnderTurnUptoRow.holds Try.pinned (OpenSpec.upto fnExactIsClosedUnderTurnSpec)

/-- 'laws.FnExactSquaresIn', WHERE WHAT IT READS IS OF BULK AT MOST 1048576: true; the input reads as it did. -/
def fnExactSquaresInUptoRow : OpenClaim := { program := "yticbdpkmpnechaa", sum := "3e85bf305b66110aafb5f9059c2c5dd6e9087491b8f09371759c5e7c5ab49282", func := "loop.example/g03209/laws.FnExactSquaresIn", spec := "fnExactSquaresIn", recurses := true, apart := false, narrowed := true }
def FnExactSquaresInUptoSaid : Prop := fnExactSquaresInUptoRow.holds Try.pinned (OpenSpec.upto fnExactSquaresInSpec)

/-- 'laws.FnExactGreatestExponent', WHERE WHAT IT READS IS OF BULK AT MOST 1048576: true; the input reads as it did. -/
def fnExactGreatestExponentUptoRow : OpenClaim := { program := "yticbdpkmpnechaa", sum := "3e85bf305b66110aafb5f9059c2c5dd6e9087491b8f09371759c5e7c5ab49282", func := "loop.example/g03209/laws.FnExactGreatestExponent", spec := "fnExactGreatestExponent", recurses := true, apart := false, narrowed := true }
def FnExactGreatestExponentUptoSaid : Prop := fnExactGreatestExponentUptoRow.holds Try.pinned (OpenSpec.upto fnExactGreatestExponentSpec)

/-- 'laws.FnExactFirstUnbalance', WHERE WHAT IT READS IS OF BULK AT MOST 1048576: true; the input reads as it did. -/
def fnExactFirstUnbalanceUptoRow : OpenClaim := { program := "yticbdpkmpnechaa", sum := "3e85bf305b66110aafb5f9059c2c5dd6e9087491b8f09371759c5e7c5ab49282", func := "loop.example/g03209/laws.FnExactFirstUnbalance", spec := "fnExactFirstUnbalance", inPlace := ["internal/bytealg.IndexByteString", "internal/bytealg.IndexString"], recurses := true, named := ["internal/bytealg.MaxLen"], apart := false, narrowed := true }
def FnExactFirstUnbalanceUptoSaid : Prop := fnExactFirstUnbalanceUptoRow.holds Try.pinned (OpenSpec.upto fnExactFirstUnbalanceSpec)

/-- 'laws.FnGaps', WHERE WHAT IT READS IS OF BULK AT MOST 1048576: true; the input reads as it did. -/
def fnGapsUptoRow : OpenClaim := { program := "yticbdpkmpnechaa", sum := "3e85bf305b66110aafb5f9059c2c5dd6e9087491b8f09371759c5e7c5ab49282", func := "loop.example/g03209/laws.FnGaps", spec := "fnGaps", recurses := true, apart := false, narrowed := true }
def FnGapsUptoSaid : Prop := fnGapsUptoRow.holds Try.pinned (OpenSpec.upto fnGapsSpec)

end Rows
end Go.Proofs.Yticbdpkmpnechaa
