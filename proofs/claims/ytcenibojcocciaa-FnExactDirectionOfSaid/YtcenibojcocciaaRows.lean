/-
  No cell of these rows narrows 'for every input' (looked for: loops, veiled, ifaces, maps, wideKeys, modest, calm, conditions, laid).
  DERIVED. THE GIVEN ROWS OF THIS SEAT. 11 by the template 'for every input the law returns true; each argument reads behind the call as it read before'; 0 by the template 'total and deterministic' (their statements: YtcenibojcocciaaTotals.lean).
  GIVEN WITH THE SEED: the statements are not yours to turn. If you find one false, say at which input.
  Laid BY PROGRAM, IN A SANDBOX (cutbox-rows.mjs): the forced cells as the released guide's own fill.sh prints them over the translation 714d16e4a1c68761… (all of the seat's roots in one cut). By AI agents, Wed Nov 11 2026. No macro, syntax, notation, axiom, sorry.
-/
import Derived.Test.YtcenibojcocciaaChecked
import GoSem.Claim
import GoSem.ClaimJoined
import GoSem.ClaimMapViews
import Derived.JoinedTies
import Derived.KernelRfl
namespace Go.Proofs.Ytcenibojcocciaa
/- THE CELL 'sum', in the pinned program and in every row, IS THE sha256 OF THE DUMP (.gsa) THAT YtcenibojcocciaaProg.lean LOADS. Nothing in Lean hashes anything: it is a label: what it is worth is what the hold of that sum in a sandbox is worth. -/
noncomputable def Try.pinned : Pinned := { name := "ytcenibojcocciaa", sum := "714d16e4a1c68761eef0c604acbb8bdec3fba3ab68e4834bc7800189add43ff3", checked := Try.checked }
namespace Rows
def none {H : Type} : Left H := { results := [], args := [] }

/-- 'laws.FnExactCountBalanced': WHATEVER THE INPUT: true; the input reads as it did. -/
def fnExactCountBalancedSpec : ChangeSpec := { name := "fnExactCountBalanced", fn := fun _ => fun
  | [d] => { results := [.lit (.bool true)], args := [d] }
  | _ => none }
def fnExactCountBalancedRow : OpenClaim := { program := "ytcenibojcocciaa", sum := "714d16e4a1c68761eef0c604acbb8bdec3fba3ab68e4834bc7800189add43ff3", func := "loop.example/g03209/laws.FnExactCountBalanced", spec := "fnExactCountBalanced", apart := false }
def FnExactCountBalancedSaid : Prop := fnExactCountBalancedRow.holds Try.pinned (OpenSpec.ofChange fnExactCountBalancedSpec)

/-- ITS FALSE NEIGHBOUR: 'it returns false'. Refute it at one input. -/
def fnExactCountBalancedWrong : ChangeSpec := { name := "fnExactCountBalanced", fn := fun _ => fun
  | [d] => { results := [.lit (.bool false)], args := [d] }
  | _ => none }
def FnExactCountBalancedWrongFalsely : Prop := fnExactCountBalancedRow.holds Try.pinned (OpenSpec.ofChange fnExactCountBalancedWrong)

/-- 'laws.FnExactPathOf': WHATEVER THE INPUT: true; the input reads as it did. -/
def fnExactPathOfSpec : ChangeSpec := { name := "fnExactPathOf", fn := fun _ => fun
  | [d1, d2] => { results := [.lit (.bool true)], args := [d1, d2] }
  | _ => none }
def fnExactPathOfRow : OpenClaim := { program := "ytcenibojcocciaa", sum := "714d16e4a1c68761eef0c604acbb8bdec3fba3ab68e4834bc7800189add43ff3", func := "loop.example/g03209/laws.FnExactPathOf", spec := "fnExactPathOf", apart := false }
def FnExactPathOfSaid : Prop := fnExactPathOfRow.holds Try.pinned (OpenSpec.ofChange fnExactPathOfSpec)

/-- ITS FALSE NEIGHBOUR: 'it returns false'. Refute it at one input. -/
def fnExactPathOfWrong : ChangeSpec := { name := "fnExactPathOf", fn := fun _ => fun
  | [d1, d2] => { results := [.lit (.bool false)], args := [d1, d2] }
  | _ => none }
def FnExactPathOfWrongFalsely : Prop := fnExactPathOfRow.holds Try.pinned (OpenSpec.ofChange fnExactPathOfWrong)

/-- 'laws.FnExactQuotientsOf': WHATEVER THE INPUT: true; the input reads as it did. -/
def fnExactQuotientsOfSpec : ChangeSpec := { name := "fnExactQuotientsOf", fn := fun _ => fun
  | [d1, d2] => { results := [.lit (.bool true)], args := [d1, d2] }
  | _ => none }
def fnExactQuotientsOfRow : OpenClaim := { program := "ytcenibojcocciaa", sum := "714d16e4a1c68761eef0c604acbb8bdec3fba3ab68e4834bc7800189add43ff3", func := "loop.example/g03209/laws.FnExactQuotientsOf", spec := "fnExactQuotientsOf", apart := false }
def FnExactQuotientsOfSaid : Prop := fnExactQuotientsOfRow.holds Try.pinned (OpenSpec.ofChange fnExactQuotientsOfSpec)

/-- ITS FALSE NEIGHBOUR: 'it returns false'. Refute it at one input. -/
def fnExactQuotientsOfWrong : ChangeSpec := { name := "fnExactQuotientsOf", fn := fun _ => fun
  | [d1, d2] => { results := [.lit (.bool false)], args := [d1, d2] }
  | _ => none }
def FnExactQuotientsOfWrongFalsely : Prop := fnExactQuotientsOfRow.holds Try.pinned (OpenSpec.ofChange fnExactQuotientsOfWrong)

/-- 'laws.FnExactChristoffelWord': WHATEVER THE INPUT: true; the input reads as it did. -/
def fnExactChristoffelWordSpec : ChangeSpec := { name := "fnExactChristoffelWord", fn := fun _ => fun
  | [d1, d2] => { results := [.lit (.bool true)], args := [d1, d2] }
  | _ => none }
def fnExactChristoffelWordRow : OpenClaim := { program := "ytcenibojcocciaa", sum := "714d16e4a1c68761eef0c604acbb8bdec3fba3ab68e4834bc7800189add43ff3", func := "loop.example/g03209/laws.FnExactChristoffelWord", spec := "fnExactChristoffelWord", apart := false }
def FnExactChristoffelWordSaid : Prop := fnExactChristoffelWordRow.holds Try.pinned (OpenSpec.ofChange fnExactChristoffelWordSpec)

/-- ITS FALSE NEIGHBOUR: 'it returns false'. Refute it at one input. -/
def fnExactChristoffelWordWrong : ChangeSpec := { name := "fnExactChristoffelWord", fn := fun _ => fun
  | [d1, d2] => { results := [.lit (.bool false)], args := [d1, d2] }
  | _ => none }
def FnExactChristoffelWordWrongFalsely : Prop := fnExactChristoffelWordRow.holds Try.pinned (OpenSpec.ofChange fnExactChristoffelWordWrong)

/-- 'laws.FnExactCountLyndon': WHATEVER THE INPUT: true; the input reads as it did. -/
def fnExactCountLyndonSpec : ChangeSpec := { name := "fnExactCountLyndon", fn := fun _ => fun
  | [d1, d2] => { results := [.lit (.bool true)], args := [d1, d2] }
  | _ => none }
def fnExactCountLyndonRow : OpenClaim := { program := "ytcenibojcocciaa", sum := "714d16e4a1c68761eef0c604acbb8bdec3fba3ab68e4834bc7800189add43ff3", func := "loop.example/g03209/laws.FnExactCountLyndon", spec := "fnExactCountLyndon", apart := false }
def FnExactCountLyndonSaid : Prop := fnExactCountLyndonRow.holds Try.pinned (OpenSpec.ofChange fnExactCountLyndonSpec)

/-- ITS FALSE NEIGHBOUR: 'it returns false'. Refute it at one input. -/
def fnExactCountLyndonWrong : ChangeSpec := { name := "fnExactCountLyndon", fn := fun _ => fun
  | [d1, d2] => { results := [.lit (.bool false)], args := [d1, d2] }
  | _ => none }
def FnExactCountLyndonWrongFalsely : Prop := fnExactCountLyndonRow.holds Try.pinned (OpenSpec.ofChange fnExactCountLyndonWrong)

/-- 'laws.FnExactFractionOf': WHATEVER THE INPUT: true; the input reads as it did. -/
def fnExactFractionOfSpec : ChangeSpec := { name := "fnExactFractionOf", fn := fun _ => fun
  | [d] => { results := [.lit (.bool true)], args := [d] }
  | _ => none }
def fnExactFractionOfRow : OpenClaim := { program := "ytcenibojcocciaa", sum := "714d16e4a1c68761eef0c604acbb8bdec3fba3ab68e4834bc7800189add43ff3", func := "loop.example/g03209/laws.FnExactFractionOf", spec := "fnExactFractionOf", apart := false }
def FnExactFractionOfSaid : Prop := fnExactFractionOfRow.holds Try.pinned (OpenSpec.ofChange fnExactFractionOfSpec)

/-- ITS FALSE NEIGHBOUR: 'it returns false'. Refute it at one input. -/
def fnExactFractionOfWrong : ChangeSpec := { name := "fnExactFractionOf", fn := fun _ => fun
  | [d] => { results := [.lit (.bool false)], args := [d] }
  | _ => none }
def FnExactFractionOfWrongFalsely : Prop := fnExactFractionOfRow.holds Try.pinned (OpenSpec.ofChange fnExactFractionOfWrong)

/-- 'laws.FnExactConvergentsOf': WHATEVER THE INPUT: true; the input reads as it did. -/
def fnExactConvergentsOfSpec : ChangeSpec := { name := "fnExactConvergentsOf", fn := fun _ => fun
  | [d] => { results := [.lit (.bool true)], args := [d] }
  | _ => none }
def fnExactConvergentsOfRow : OpenClaim := { program := "ytcenibojcocciaa", sum := "714d16e4a1c68761eef0c604acbb8bdec3fba3ab68e4834bc7800189add43ff3", func := "loop.example/g03209/laws.FnExactConvergentsOf", spec := "fnExactConvergentsOf", apart := false }
def FnExactConvergentsOfSaid : Prop := fnExactConvergentsOfRow.holds Try.pinned (OpenSpec.ofChange fnExactConvergentsOfSpec)

/-- ITS FALSE NEIGHBOUR: 'it returns false'. Refute it at one input. -/
def fnExactConvergentsOfWrong : ChangeSpec := { name := "fnExactConvergentsOf", fn := fun _ => fun
  | [d] => { results := [.lit (.bool false)], args := [d] }
  | _ => none }
def FnExactConvergentsOfWrongFalsely : Prop := fnExactConvergentsOfRow.holds Try.pinned (OpenSpec.ofChange fnExactConvergentsOfWrong)

/-- 'laws.FnExactLongestPalindrome': WHATEVER THE INPUT: true; the input reads as it did. -/
def fnExactLongestPalindromeSpec : ChangeSpec := { name := "fnExactLongestPalindrome", fn := fun _ => fun
  | [d] => { results := [.lit (.bool true)], args := [d] }
  | _ => none }
def fnExactLongestPalindromeRow : OpenClaim := { program := "ytcenibojcocciaa", sum := "714d16e4a1c68761eef0c604acbb8bdec3fba3ab68e4834bc7800189add43ff3", func := "loop.example/g03209/laws.FnExactLongestPalindrome", spec := "fnExactLongestPalindrome", apart := false }
def FnExactLongestPalindromeSaid : Prop := fnExactLongestPalindromeRow.holds Try.pinned (OpenSpec.ofChange fnExactLongestPalindromeSpec)

/-- ITS FALSE NEIGHBOUR: 'it returns false'. Refute it at one input. -/
def fnExactLongestPalindromeWrong : ChangeSpec := { name := "fnExactLongestPalindrome", fn := fun _ => fun
  | [d] => { results := [.lit (.bool false)], args := [d] }
  | _ => none }
def FnExactLongestPalindromeWrongFalsely : Prop := fnExactLongestPalindromeRow.holds Try.pinned (OpenSpec.ofChange fnExactLongestPalindromeWrong)

/-- 'laws.FnExactCloseWord': WHATEVER THE INPUT: true; the input reads as it did. -/
def fnExactCloseWordSpec : ChangeSpec := { name := "fnExactCloseWord", fn := fun _ => fun
  | [d] => { results := [.lit (.bool true)], args := [d] }
  | _ => none }
def fnExactCloseWordRow : OpenClaim := { program := "ytcenibojcocciaa", sum := "714d16e4a1c68761eef0c604acbb8bdec3fba3ab68e4834bc7800189add43ff3", func := "loop.example/g03209/laws.FnExactCloseWord", spec := "fnExactCloseWord", apart := false }
def FnExactCloseWordSaid : Prop := fnExactCloseWordRow.holds Try.pinned (OpenSpec.ofChange fnExactCloseWordSpec)

/-- ITS FALSE NEIGHBOUR: 'it returns false'. Refute it at one input. -/
def fnExactCloseWordWrong : ChangeSpec := { name := "fnExactCloseWord", fn := fun _ => fun
  | [d] => { results := [.lit (.bool false)], args := [d] }
  | _ => none }
def FnExactCloseWordWrongFalsely : Prop := fnExactCloseWordRow.holds Try.pinned (OpenSpec.ofChange fnExactCloseWordWrong)

/-- 'laws.FnExactDirectedWord': WHATEVER THE INPUT: true; the input reads as it did. -/
def fnExactDirectedWordSpec : ChangeSpec := { name := "fnExactDirectedWord", fn := fun _ => fun
  | [d] => { results := [.lit (.bool true)], args := [d] }
  | _ => none }
def fnExactDirectedWordRow : OpenClaim := { program := "ytcenibojcocciaa", sum := "714d16e4a1c68761eef0c604acbb8bdec3fba3ab68e4834bc7800189add43ff3", func := "loop.example/g03209/laws.FnExactDirectedWord", spec := "fnExactDirectedWord", apart := false }
def FnExactDirectedWordSaid : Prop := fnExactDirectedWordRow.holds Try.pinned (OpenSpec.ofChange fnExactDirectedWordSpec)

/-- ITS FALSE NEIGHBOUR: 'it returns false'. Refute it at one input. -/
def fnExactDirectedWordWrong : ChangeSpec := { name := "fnExactDirectedWord", fn := fun _ => fun
  | [d] => { results := [.lit (.bool false)], args := [d] }
  | _ => none }
def FnExactDirectedWordWrongFalsely : Prop := fnExactDirectedWordRow.holds Try.pinned (OpenSpec.ofChange fnExactDirectedWordWrong)

/-- 'laws.FnExactDirectionOf': WHATEVER THE INPUT: true; the input reads as it did. -/
def fnExactDirectionOfSpec : ChangeSpec := { name := "fnExactDirectionOf", fn := fun _ => fun
  | [d] => { results := [.lit (.bool true)], args := [d] }
  | _ => none }
def fnExactDirectionOfRow : OpenClaim := { program := "ytcenibojcocciaa", sum := "714d16e4a1c68761eef0c604acbb8bdec3fba3ab68e4834bc7800189add43ff3", func := "loop.example/g03209/laws.FnExactDirectionOf", spec := "fnExactDirectionOf", apart := false }
def FnExactDirectionOfSaid : Prop := fnExactDirectionOfRow.holds Try.pinned (OpenSpec.ofChange fnExactDirectionOfSpec)

/-- ITS FALSE NEIGHBOUR: 'it returns false'. Refute it at one input. -/
def fnExactDirectionOfWrong : ChangeSpec := { name := "fnExactDirectionOf", fn := fun _ => fun
  | [d] => { results := [.lit (.bool false)], args := [d] }
  | _ => none }
def FnExactDirectionOfWrongFalsely : Prop := fnExactDirectionOfRow.holds Try.pinned (OpenSpec.ofChange fnExactDirectionOfWrong)

/- THE SECOND FORM. 'bulk': how many values and letters a reading holds, each counted each time it is reached (what is shared counts as often as it is met; a slice's spare places count too). A statement '..UptoSaid' is the law's where the arguments, and the package variables that the reading takes, are together of bulk at most 1048576: NARROWER than '..Said'. Prove '..Said' where nothing that the law and all that it calls make is longer than what came in: it says more and counts as full. Else prove '..UptoSaid'. A law counts once. -/
mutual
def uptoBulk {H : Type} : DataW H → Nat
  | .lit (.string bytes) => bytes.length + 1
  | .lit _ => 1
  | .nil => 1
  | .ptr d => uptoBulk d + 1
  | .slice elems spare => uptoBulkAll elems + uptoBulkAll spare + 1
  | .agg parts => uptoBulkAll parts + 1
  | .iface _ d => uptoBulk d + 1
  | .map entries => uptoBulkEntries entries + 1
  | .held _ => 1
def uptoBulkAll {H : Type} : List (DataW H) → Nat
  | [] => 0
  | d :: r => uptoBulk d + uptoBulkAll r
def uptoBulkEntries {H : Type} : List (Lit × DataW H) → Nat
  | [] => 0
  | x :: r => uptoBulkEntry x + uptoBulkEntries r
def uptoBulkEntry {H : Type} : Lit × DataW H → Nat
  | (.string bytes, d) => bytes.length + uptoBulk d + 1
  | (_, d) => uptoBulk d + 1
 end
def uptoSmall : (H : Type) → List (DataW H) → Bool := fun _ ds => decide (uptoBulkAll ds ≤ 1048576)
def OpenSpec.upto (s : _root_.Go.ChangeSpec) : _root_.Go.OpenSpec := { _root_.Go.OpenSpec.ofChange s with cond := some uptoSmall }

/-- 'laws.FnExactCountBalanced', WHERE WHAT IT READS IS OF BULK AT MOST 1048576: true; the input reads as it did. -/
def fnExactCountBalancedUptoRow : OpenClaim := { program := "ytcenibojcocciaa", sum := "714d16e4a1c68761eef0c604acbb8bdec3fba3ab68e4834bc7800189add43ff3", func := "loop.example/g03209/laws.FnExactCountBalanced", spec := "fnExactCountBalanced", apart := false, narrowed := true }
def FnExactCountBalancedUptoSaid : Prop := fnExactCountBalancedUptoRow.holds Try.pinned (OpenSpec.upto fnExactCountBalancedSpec)

/-- 'laws.FnExactPathOf', WHERE WHAT IT READS IS OF BULK AT MOST 1048576: true; the input reads as it did. -/
def fnExactPathOfUptoRow : OpenClaim := { program := "ytcenibojcocciaa", sum := "714d16e4a1c68761eef0c604acbb8bdec3fba3ab68e4834bc7800189add43ff3", func := "loop.example/g03209/laws.FnExactPathOf", spec := "fnExactPathOf", apart := false, narrowed := true }
def FnExactPathOfUptoSaid : Prop := fnExactPathOfUptoRow.holds Try.pinned (OpenSpec.upto fnExactPathOfSpec)

/-- 'laws.FnExactQuotientsOf', WHERE WHAT IT READS IS OF BULK AT MOST 1048576: true; the input reads as it did. -/
def fnExactQuotientsOfUptoRow : OpenClaim := { program := "ytcenibojcocciaa", sum := "714d16e4a1c68761eef0c604acbb8bdec3fba3ab68e4834bc7800189add43ff3", func := "loop.example/g03209/laws.FnExactQuotientsOf", spec := "fnExactQuotientsOf", apart := false, narrowed := true }
def FnExactQuotientsOfUptoSaid : Prop := fnExactQuotientsOfUptoRow.holds Try.pinned (OpenSpec.upto fnExactQuotientsOfSpec)

/-- 'laws.FnExactChristoffelWord', WHERE WHAT IT READS IS OF BULK AT MOST 1048576: true; the input reads as it did. -/
def fnExactChristoffelWordUptoRow : OpenClaim := { program := "ytcenibojcocciaa", sum := "714d16e4a1c68761eef0c604acbb8bdec3fba3ab68e4834bc7800189add43ff3", func := "loop.example/g03209/laws.FnExactChristoffelWord", spec := "fnExactChristoffelWord", apart := false, narrowed := true }
def FnExactChristoffelWordUptoSaid : Prop := fnExactChristoffelWordUptoRow.holds Try.pinned (OpenSpec.upto fnExactChristoffelWordSpec)

/-- 'laws.FnExactCountLyndon', WHERE WHAT IT READS IS OF BULK AT MOST 1048576: true; the input reads as it did. -/
def fnExactCountLyndonUptoRow : OpenClaim := { program := "ytcenibojcocciaa", sum := "714d16e4a1c68761eef0c604acbb8bdec3fba3ab68e4834bc7800189add43ff3", func := "loop.example/g03209/laws.FnExactCountLyndon", spec := "fnExactCountLyndon", apart := false, narrowed := true }
def FnExactCountLyndonUptoSaid : Prop := fnExactCountLyndonUptoRow.holds Try.pinned (OpenSpec.upto fnExactCountLyndonSpec)

/-- 'laws.FnExactFractionOf', WHERE WHAT IT READS IS OF BULK AT MOST 1048576: true; the input reads as it did. -/
def fnExactFractionOfUptoRow : OpenClaim := { program := "ytcenibojcocciaa", sum := "714d16e4a1c68761eef0c604acbb8bdec3fba3ab68e4834bc7800189add43ff3", func := "loop.example/g03209/laws.FnExactFractionOf", spec := "fnExactFractionOf", apart := false, narrowed := true }
def FnExactFractionOfUptoSaid : Prop := fnExactFractionOfUptoRow.holds Try.pinned (OpenSpec.upto fnExactFractionOfSpec)

/-- 'laws.FnExactConvergentsOf', WHERE WHAT IT READS IS OF BULK AT MOST 1048576: true; the input reads as it did. -/
def fnExactConvergentsOfUptoRow : OpenClaim := { program := "ytcenibojcocciaa", sum := "714d16e4a1c68761eef0c604acbb8bdec3fba3ab68e4834bc7800189add43ff3", func := "loop.example/g03209/laws.FnExactConvergentsOf", spec := "fnExactConvergentsOf", apart := false, narrowed := true }
def FnExactConvergentsOfUptoSaid : Prop := fnExactConvergentsOfUptoRow.holds Try.pinned (OpenSpec.upto fnExactConvergentsOfSpec)

/-- 'laws.FnExactLongestPalindrome', WHERE WHAT IT READS IS OF BULK AT MOST 1048576: true; the input reads as it did. -/
def fnExactLongestPalindromeUptoRow : OpenClaim := { program := "ytcenibojcocciaa", sum := "714d16e4a1c68761eef0c604acbb8bdec3fba3ab68e4834bc7800189add43ff3", func := "loop.example/g03209/laws.FnExactLongestPalindrome", spec := "fnExactLongestPalindrome", apart := false, narrowed := true }
def FnExactLongestPalindromeUptoSaid : Prop := fnExactLongestPalindromeUptoRow.holds Try.pinned (OpenSpec.upto fnExactLongestPalindromeSpec)

/-- 'laws.FnExactCloseWord', WHERE WHAT IT READS IS OF BULK AT MOST 1048576: true; the input reads as it did. -/
def fnExactCloseWordUptoRow : OpenClaim := { program := "ytcenibojcocciaa", sum := "714d16e4a1c68761eef0c604acbb8bdec3fba3ab68e4834bc7800189add43ff3", func := "loop.example/g03209/laws.FnExactCloseWord", spec := "fnExactCloseWord", apart := false, narrowed := true }
def FnExactCloseWordUptoSaid : Prop := fnExactCloseWordUptoRow.holds Try.pinned (OpenSpec.upto fnExactCloseWordSpec)

/-- 'laws.FnExactDirectedWord', WHERE WHAT IT READS IS OF BULK AT MOST 1048576: true; the input reads as it did. -/
def fnExactDirectedWordUptoRow : OpenClaim := { program := "ytcenibojcocciaa", sum := "714d16e4a1c68761eef0c604acbb8bdec3fba3ab68e4834bc7800189add43ff3", func := "loop.example/g03209/laws.FnExactDirectedWord", spec := "fnExactDirectedWord", apart := false, narrowed := true }
def FnExactDirectedWordUptoSaid : Prop := fnExactDirectedWordUptoRow.holds Try.pinned (OpenSpec.upto fnExactDirectedWordSpec)

/-- 'laws.FnExactDirectionOf', WHERE WHAT IT READS IS OF BULK AT MOST 1048576: true; the input reads as it did. -/
def fnExactDirectionOfUptoRow : OpenClaim := { program := "ytcenibojcocciaa", sum := "714d16e4a1c68761eef0c604acbb8bdec3fba3ab68e4834bc7800189add43ff3", func := "loop.example/g03209/laws.FnExactDirectionOf", spec := "fnExactDirectionOf", apart := false, narrowed := true }
def FnExactDirectionOfUptoSaid : Prop := fnExactDirectionOfUptoRow.holds Try.pinned (OpenSpec.upto fnExactDirectionOfSpec)

end Rows
end Go.Proofs.Ytcenibojcocciaa
