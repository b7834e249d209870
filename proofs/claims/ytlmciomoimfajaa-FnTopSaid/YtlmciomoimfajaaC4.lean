/- Contracts of CountSquareFree in the program and in the reference. Conditions: none beyond int64 arguments. -/
import Derived.Test.YtlmciomoimfajaaC1
namespace Go.Proofs.Ytlmciomoimfajaa
open Go.RowKit
set_option linter.unusedVariables false

/-- does a square end at the end: the first half from h on -/
def endGo (l : List UInt8) : Nat → Nat → Bool
  | 0, _ => false
  | f + 1, h => if powB l (l.length - 2 * h) (2 * h) h = true then true else endGo l f (h + 1)
def endSq (l : List UInt8) : Bool := endGo l (l.length / 2) 1
theorem endGo_hit {l : List UInt8} {h : Nat} (hh : 2 * h ≤ l.length) (hp : powB l (l.length - 2 * h) (2 * h) h = true) : endGo l (l.length / 2 + 1 - h) h = true := by
  rw [show l.length / 2 + 1 - h = (l.length / 2 - h) + 1 by omega, endGo, if_pos hp]
theorem endGo_miss {l : List UInt8} {h : Nat} (hh : 2 * h ≤ l.length) (hp : powB l (l.length - 2 * h) (2 * h) h = false) : endGo l (l.length / 2 + 1 - h) h = endGo l (l.length / 2 + 1 - (h + 1)) (h + 1) := by
  rw [show l.length / 2 + 1 - h = (l.length / 2 - h) + 1 by omega, endGo, if_neg (by simp [hp]), show l.length / 2 + 1 - (h + 1) = l.length / 2 - h by omega]
theorem endGo_end {l : List UInt8} {h : Nat} (hh : l.length < 2 * h) : endGo l (l.length / 2 + 1 - h) h = false := by
  rw [show l.length / 2 + 1 - h = 0 by omega]; rfl

/-- letter k of a, b, c, d -/
def letU : Nat → UInt8
  | 0 => 97
  | 1 => 98
  | 2 => 99
  | _ => 100
theorem letter_abcd (k : Nat) (h : k < 4) : (⟨#[97, 98, 99, 100]⟩ : ByteArray).extract k (k + 1) = St [letU k] := by
  rcases (show k = 0 ∨ k = 1 ∨ k = 2 ∨ k = 3 by omega) with rfl | rfl | rfl | rfl <;> (apply str_inj; rw [ext_data]; rfl)
theorem letter_abc (k : Nat) (h : k < 3) : (⟨#[97, 98, 99]⟩ : ByteArray).extract k (k + 1) = St [letU k] := by
  rcases (show k = 0 ∨ k = 1 ∨ k = 2 by omega) with rfl | rfl | rfl <;> (apply str_inj; rw [ext_data]; rfl)
/-- a word with a letter more -/
def snoc (s : ByteArray) (k : Nat) : ByteArray := St (s.data.toList ++ [letU k])
theorem snoc_eq (s : ByteArray) (k : Nat) : s ++ St [letU k] = snoc s k := by
  apply str_inj; rw [ByteArray.data_append, Array.toList_append]; rfl
theorem snoc_size (s : ByteArray) (k : Nat) : (snoc s k).size = s.size + 1 := by rw [snoc, St_size, List.length_append, ← size_len]; rfl

/-- how many words of 'm' letters more, on the first 'K' letters, go on without a square -/
def cf (K : Nat) : Nat → List UInt8 → Nat
  | 0, _ => 1
  | m + 1, l => ((List.range K).map fun i => if endSq (l ++ [letU i]) = true then 0 else cf K m (l ++ [letU i])).sum
def cfS (K m : Nat) (l : List UInt8) (j : Nat) : Nat := ((List.range j).map fun i => if endSq (l ++ [letU i]) = true then 0 else cf K m (l ++ [letU i])).sum
theorem cf_succ (K m : Nat) (l : List UInt8) : cf K (m + 1) l = cfS K m l K := rfl
theorem cfS_zero (K m : Nat) (l : List UInt8) : cfS K m l 0 = 0 := rfl
theorem cfS_yes {K m : Nat} {s : ByteArray} {j : Nat} (h : endSq (snoc s j).data.toList = true) : cfS K m s.data.toList (j + 1) = cfS K m s.data.toList j := by
  have h' : endSq (s.data.toList ++ [letU j]) = true := h
  simp [cfS, List.range_succ, h']
theorem cfS_no {K m : Nat} {s : ByteArray} {j : Nat} (h : endSq (snoc s j).data.toList = false) : cfS K m s.data.toList (j + 1) = cfS K m s.data.toList j + cf K m (snoc s j).data.toList := by
  have h' : endSq (s.data.toList ++ [letU j]) = false := h
  simp [cfS, List.range_succ, h']; rfl
theorem cfS_mul {K m B : Nat} (hB : ∀ l, cf K m l ≤ B) (l : List UInt8) : ∀ j, cfS K m l j ≤ j * B
  | 0 => by rw [cfS_zero]; exact Nat.zero_le _
  | j + 1 => by
    have e : cfS K m l (j + 1) = cfS K m l j + (if endSq (l ++ [letU j]) = true then 0 else cf K m (l ++ [letU j])) := by simp [cfS, List.range_succ]
    have h1 := cfS_mul hB l j
    have h2 := hB (l ++ [letU j])
    rw [e, Nat.succ_mul]
    split <;> omega
theorem cf_le (K : Nat) (hK : K ≤ 3) : ∀ m l, cf K m l ≤ 3 ^ m
  | 0, l => by simp [cf]
  | m + 1, l => by
    rw [cf_succ, Nat.pow_succ, Nat.mul_comm]
    exact Nat.le_trans (cfS_mul (cf_le K hK m) l K) (Nat.mul_le_mul_right _ hK)
theorem cf_small (K m : Nat) (l : List UInt8) (hK : K ≤ 3) (hm : m ≤ 12) : cf K m l ≤ 531441 :=
  Nat.le_trans (cf_le K hK m l) (Nat.le_trans (Nat.pow_le_pow_right (by omega) hm) (by decide))
theorem cfS_small (K m : Nat) (l : List UInt8) (j : Nat) (hK : K ≤ 3) (hm : m ≤ 12) (hj : j ≤ 3) : cfS K m l j ≤ 1594323 :=
  Nat.le_trans (cfS_mul (fun l => cf_small K m l hK hm) l j) (Nat.le_trans (Nat.mul_le_mul_right _ hj) (by decide))

def csOk (K n : Int) : Bool := inB K 1 3 && inB n 0 12
def csW (K n : Int) : Int := if csOk K n = true then ((cf K.toNat n.toNat [] : Nat) : Int) else -1
theorem csOk_iff {K n : Int} : csOk K n = true ↔ 1 ≤ K ∧ K ≤ 3 ∧ 0 ≤ n ∧ n ≤ 12 := by
  simp only [csOk, Bool.and_eq_true, inB_iff]; omega

end Go.Proofs.Ytlmciomoimfajaa
