/- Contracts of RootOf, IsPrimitiveWord in the program and in the reference. Conditions: strings of at most 2^30 bytes. -/
import Derived.Test.YtlmciomoimfajaaDoorB4
namespace Go.Proofs.YtlmciomoimfajaaDoor
open Go.RowKit
set_option linter.unusedVariables false

/-- the beginning agrees with the end: a period of the whole word -/
theorem ends_eq (s : ByteArray) (p : Nat) (h : p ≤ s.size) : ((s.extract 0 (s.size - p)).toList == (s.extract p s.size).toList) = powB s.data.toList 0 s.size p := by
  have hl := size_len s
  rw [Bool.eq_iff_iff, powB_iff, Lib.toList_data, Lib.toList_data, ext_data, ext_data, beq_iff_eq]
  constructor
  · intro he
    refine ⟨by omega, fun j hj => ?_⟩
    have := congrArg (fun l => l[j]?) he
    simp only [List.getElem?_take, List.getElem?_drop] at this
    rw [if_pos (by omega), if_pos (by omega)] at this
    simpa [Nat.add_comm] using this
  · intro hp
    apply List.ext_getElem?
    intro j
    simp only [List.getElem?_take, List.getElem?_drop]
    by_cases hj : j < s.size - p
    · rw [if_pos (by omega), if_pos (by omega)]
      have := hp.2 j (by omega)
      simpa [Nat.add_comm] using this
    · rw [if_neg (by omega), if_neg (by omega)]

def rootGo (l : List UInt8) : Nat → Nat → Nat
  | 0, _ => l.length
  | f + 1, n => if l.length % n = 0 ∧ powB l 0 l.length n = true then n else rootGo l f (n + 1)
def rootOf (l : List UInt8) : Nat := rootGo l (l.length - 1) 1
theorem rootGo_hit {l : List UInt8} {n : Nat} (hn : n ≤ l.length) (h1 : l.length % n = 0) (h : powB l 0 l.length n = true) : rootGo l (l.length - n) n = n := by
  rcases Nat.eq_or_lt_of_le hn with rfl | hlt
  · rw [Nat.sub_self]; rfl
  · rw [show l.length - n = (l.length - n - 1) + 1 by omega, rootGo, if_pos ⟨h1, h⟩]
theorem rootGo_miss {l : List UInt8} {n : Nat} (hn : n < l.length) (h : ¬ (l.length % n = 0 ∧ powB l 0 l.length n = true)) : rootGo l (l.length - n) n = rootGo l (l.length - (n + 1)) (n + 1) := by
  rw [show l.length - n = (l.length - n - 1) + 1 by omega, rootGo, if_neg h, show l.length - n - 1 = l.length - (n + 1) by omega]
theorem root_full (l : List UInt8) : l.length % l.length = 0 ∧ powB l 0 l.length l.length = true := ⟨Nat.mod_self _, powB_iff.2 ⟨by omega, fun j hj => by omega⟩⟩

def rootOk (s : ByteArray) : Bool := wordL s.data.toList && !s.toList.isEmpty
def rootS (s : ByteArray) : ByteArray := if rootOk s = true then St (s.data.toList.take (rootOf s.data.toList)) else St []
def rootN (s : ByteArray) : Int := if rootOk s = true then ((s.size / rootOf s.data.toList : Nat) : Int) else 0
theorem ret_si {a b : ByteArray} {c d : Int} (h1 : a = b) (h2 : c = d) : Ending.returned (.tuple #[.string a, .int .i64 c]) = .returned (.tuple #[.string b, .int .i64 d]) := by rw [h1, h2]
theorem isEmpty_iff (s : ByteArray) : s.toList.isEmpty = true ↔ s.size = 0 := by rw [Lib.toList_data, List.isEmpty_iff, ← List.length_eq_zero_iff, ← size_len]
theorem isEmpty_no {s : ByteArray} (h : 1 ≤ s.size) : s.toList.isEmpty = false := by
  cases hx : s.toList.isEmpty with
  | false => rfl
  | true => have := (isEmpty_iff s).1 hx; omega
theorem pre_eq (s : ByteArray) (p : Nat) : s.extract 0 p = St (s.data.toList.take p) := str_inj (by rw [ext_data, St_data]; simp)

end Go.Proofs.YtlmciomoimfajaaDoor
