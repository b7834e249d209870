/- Contracts of turned, l02Turn (the string in reverse order), isTurned, l08Is. Conditions: a string of at most 2^30 bytes. -/
import Derived.Test.YtlmciomoimfajaaDoorB1
namespace Go.Proofs.YtlmciomoimfajaaDoor
open Go.RowKit
set_option linter.unusedVariables false

def rev (s : ByteArray) : ByteArray := St s.data.toList.reverse
theorem rev_data (s : ByteArray) : (rev s).data.toList = s.data.toList.reverse := rfl
theorem rev_size (s : ByteArray) : (rev s).size = s.size := by rw [rev, St_size, List.length_reverse, ← size_len]

/-- what the row of 'turned' holds behind k rounds -/
def turnRow (l : List UInt8) (k : Nat) : List UInt8 := List.replicate (l.length - k) 0 ++ (l.take k).reverse
theorem turnRow_len (l : List UInt8) (k : Nat) (h : k ≤ l.length) : (turnRow l k).length = l.length := by
  simp [turnRow]; omega
theorem turnRow_zero (l : List UInt8) : turnRow l 0 = List.replicate l.length 0 := by simp [turnRow]
theorem turnRow_end (l : List UInt8) : turnRow l l.length = l.reverse := by simp [turnRow]
theorem turnRow_step (l : List UInt8) (k : Nat) (h : k < l.length) : (turnRow l k).set (l.length - 1 - k) l[k] = turnRow l (k + 1) := by
  unfold turnRow
  rw [show l.length - k = (l.length - (k + 1)) + 1 by omega, List.replicate_succ', List.append_assoc,
    List.set_append_right _ _ (by simp; omega), List.take_succ_eq_append_getElem h, List.reverse_append]
  simp only [List.length_replicate, show l.length - 1 - k - (l.length - (k + 1)) = 0 by omega]
  simp
theorem bv_replicate (n : Nat) : bv (List.replicate n 0) = List.replicate n (Value.int .u8 0) := by simp [bv]
theorem bv_set (l : List UInt8) (j : Nat) (c : UInt8) : (bv l).set j (.int .u8 (c.toNat : Int)) = bv (l.set j c) := by simp [bv, List.map_set]

/-- the row behind one store -/
theorem turn_step {w : World} {B g cap : Nat} {s : ByteArray} {k : Nat} (hk : k < s.size) (h : OwnB w B (.slice (some ⟨g, 0, none⟩) s.size cap) (turnRow s.data.toList k)) :
    OwnB (w.setCell ⟨g, s.size - 1 - k, none⟩ (.int .u8 (s[k].toNat : Int))) B (.slice (some ⟨g, 0, none⟩) s.size cap) (turnRow s.data.toList (k + 1)) ∧
    w.grownBy (w.setCell ⟨g, s.size - 1 - k, none⟩ (.int .u8 (s[k].toNat : Int))) (some g) := by
  have hk' : k < s.data.toList.length := by rw [← size_len]; exact hk
  have hl := turnRow_len s.data.toList k (by omega)
  have hl' := turnRow_len s.data.toList (k + 1) (by omega)
  have hsz := size_len s
  unfold OwnB at h ⊢
  rw [hl, ← hsz] at h
  rw [hl', ← hsz]
  have := h.stored (s.size - 1 - k) (.int .u8 (s[k].toNat : Int))
  rw [bv_set] at this
  rw [← turnRow_step _ k hk', hsz.symm]
  exact this

theorem turn_start {w : World} {B : Nat} {v : Value} {s : ByteArray} (h : w.ownsRow B 5 1 v s.size (madeCells (Value.int .u8 0).cells (s.size * 1)).toList) :
    OwnB w B v (turnRow s.data.toList 0) := by
  have e : (madeCells (Value.int .u8 0).cells (s.size * 1)).toList = bv (turnRow s.data.toList 0) := by
    rw [turnRow_zero, bv_replicate, ← size_len, Nat.mul_one]; exact toList_madeCells_one _ _
  unfold OwnB
  rw [turnRow_len _ _ (Nat.zero_le _), ← size_len, ← e]; exact h

theorem turn_cell {w : World} {B g cap : Nat} {s : ByteArray} {k : Nat} (hk : k < s.size) (h : OwnB w B (.slice (some ⟨g, 0, none⟩) s.size cap) (turnRow s.data.toList k)) :
    (∃ x, w.cell? ⟨g, s.size - 1 - k, none⟩ = some x) ∧ w.frozen? ⟨g, s.size - 1 - k, none⟩ = false := by
  have hk' : k < s.data.toList.length := by rw [← size_len]; exact hk
  have hl := turnRow_len s.data.toList k (by omega)
  have hsz := size_len s
  unfold OwnB at h
  rw [hl, ← hsz] at h
  refine ⟨?_, h.frozenAt _⟩
  have hc := h.cellAt (s.size - 1 - k) (by omega)
  have hlt : s.size - 1 - k < (bv (turnRow s.data.toList k)).length := by rw [bv_len, hl]; omega
  exact ⟨_, hc.trans (List.getElem?_eq_getElem hlt)⟩

/-- what the row of 'l02Turn' holds behind k rounds -/
def backRow (l : List UInt8) (k : Nat) : List UInt8 := (l.drop (l.length - k)).reverse
theorem backRow_zero (l : List UInt8) : backRow l 0 = [] := by simp [backRow]
theorem backRow_end (l : List UInt8) : backRow l l.length = l.reverse := by simp [backRow]
theorem backRow_full (s : ByteArray) : backRow s.data.toList s.size = s.data.toList.reverse := by rw [size_len, backRow_end]
theorem backRow_len (l : List UInt8) (k : Nat) (h : k ≤ l.length) : (backRow l k).length = k := by simp [backRow]; omega
theorem backRow_step (s : ByteArray) (k j : Nat) (h : j + 1 + k = s.size) : backRow s.data.toList (k + 1) = backRow s.data.toList k ++ [s[j]'(by omega)] := by
  have hz := size_len s
  unfold backRow
  rw [show s.data.toList.length - (k + 1) = j by omega, show s.data.toList.length - k = j + 1 by omega, drop_cons s j (by omega), List.reverse_cons]

/-! a palindrome -/
def isPal (s : ByteArray) : Bool := decide (s.data.toList = s.data.toList.reverse)

end Go.Proofs.YtlmciomoimfajaaDoor
