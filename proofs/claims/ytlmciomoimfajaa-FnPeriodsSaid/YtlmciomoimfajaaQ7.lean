/- Plain lemmas for FnPeriods: how many Lyndon words of a length there are on one to three letters: the look through all words and the sum over divisors agree (twelve cases). No program in sight. -/
import Derived.Test.YtlmciomoimfajaaQ6
import Derived.Test.YtlmciomoimfajaaG6
import Derived.Test.YtlmciomoimfajaaC2
namespace Go.Proofs.Ytlmciomoimfajaa
open Go.RowKit
set_option linter.unusedVariables false

def lyL (l : List UInt8) : Bool := wordL l && !l.isEmpty && (List.range l.length).all fun j => j == 0 || !(Op.bytesLess (l.drop j ++ l.take j) l || (l.drop j ++ l.take j == l))
theorem lyW_list (s : ByteArray) : lyW s = lyL s.data.toList := by
  unfold lyW lyL rootOk
  rw [Lib.toList_data]
  congr 1
  rw [Bool.eq_iff_iff, cB_iff, List.all_eq_true]
  unfold lyTo
  have e : ∀ j, leB (rotS s j) s = (Op.bytesLess (s.data.toList.drop j ++ s.data.toList.take j) s.data.toList || (s.data.toList.drop j ++ s.data.toList.take j == s.data.toList)) := fun j => by
    unfold leB; rw [Lib.toList_data, Lib.toList_data]; rfl
  constructor
  · intro h j hj
    rw [List.mem_range, ← size_len] at hj
    rcases Nat.eq_zero_or_pos j with h0 | h0
    · simp [h0]
    · have := h j h0 hj
      rw [e] at this
      rw [this]; simp
  · intro h j h1 h2
    have := h j (List.mem_range.2 (by rw [← size_len]; exact h2))
    rw [e]
    have h0 : (j == 0) = false := by simp; omega
    rw [h0, Bool.false_or] at this
    simpa using this
def levL (k : Nat) : Nat → List (List UInt8)
  | 0 => [[]]
  | i + 1 => (levL k i).flatMap fun l => (List.range k).map fun j => l ++ [letU j]
def allL (k : Nat) : Nat → List (List UInt8)
  | 0 => levL k 0
  | i + 1 => allL k i ++ levL k (i + 1)
theorem lev_list (k : Nat) : ∀ i, lev k i = (levL k i).map St
  | 0 => rfl
  | i + 1 => by
    rw [lev, levL, lev_list k i, List.flatMap_map, List.map_flatMap]
    congr 1
    funext l
    unfold kids
    rw [List.map_map]
    rfl
theorem all_list (k : Nat) : ∀ i, allTo k i = (allL k i).map St
  | 0 => lev_list k 0
  | i + 1 => by rw [allTo, allL, all_list k i, lev_list, List.map_append]
noncomputable def cP (m : Nat) (x : ByteArray) : Bool := decide (x.size = m) && lyW x
def cQ (m : Nat) (l : List UInt8) : Bool := decide (l.length = m) && lyL l
theorem cP_list (m : Nat) (l : List UInt8) : cP m (St l) = cQ m l := by unfold cP cQ; rw [St_size, lyW_list, St_data]
theorem cnt_list (k m : Nat) : ((allTo k m).filter (cP m)).length = ((allL k m).filter (cQ m)).length := by
  rw [all_list, List.filter_map, List.length_map]
  congr 2
  funext l
  exact cP_list m l
theorem cnt_case {k m : Nat} (hk1 : 1 ≤ k) (hk : k ≤ 3) (hm1 : 1 ≤ m) (hm : m ≤ 4) : clW k m = (((allTo k m).filter (cP m)).length : Int) := by
  rw [cnt_list]
  rcases (show k = 1 ∨ k = 2 ∨ k = 3 by omega) with rfl | rfl | rfl <;> rcases (show m = 1 ∨ m = 2 ∨ m = 3 ∨ m = 4 by omega) with rfl | rfl | rfl | rfl <;> decide +kernel
theorem filt_yes {P : ByteArray → Bool} {L : List ByteArray} {t : Nat} {x : ByteArray} (h : L[t]? = some x) (hp : P x = true) : ((L.take (t + 1)).filter P).length = ((L.take t).filter P).length + 1 := by
  have hm := (List.getElem?_eq_some_iff.1 h).1
  rw [List.take_succ_eq_append_getElem hm, (List.getElem?_eq_some_iff.1 h).2, List.filter_append, List.length_append]
  simp [hp]
theorem filt_no {P : ByteArray → Bool} {L : List ByteArray} {t : Nat} {x : ByteArray} (h : L[t]? = some x) (hp : P x = false) : ((L.take (t + 1)).filter P).length = ((L.take t).filter P).length := by
  have hm := (List.getElem?_eq_some_iff.1 h).1
  rw [List.take_succ_eq_append_getElem hm, (List.getElem?_eq_some_iff.1 h).2, List.filter_append, List.length_append]
  simp [hp]
end Go.Proofs.Ytlmciomoimfajaa
