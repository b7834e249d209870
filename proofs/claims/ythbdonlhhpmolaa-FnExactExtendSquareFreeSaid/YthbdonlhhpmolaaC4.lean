/- Contracts of CountSquareFree in the program and in the reference. Conditions: none beyond int64 arguments. -/
import Derived.Test.YthbdonlhhpmolaaC1
namespace Go.Proofs.Ythbdonlhhpmolaa
open Go.RowKit
set_option linter.unusedVariables false

/-- does a square end at the end: the first half from h on -/
def endGo (l : List UInt8) : Nat → Nat → Bool
  | 0, _ => false
  | f + 1, h => if powB l (l.length - 2 * h) (2 * h) h = true then true else endGo l f (h + 1)
def endSq (l : List UInt8) : Bool := endGo l (l.length / 2) 1
theorem endGo_hit {l : List UInt8} {h : Nat} (hh : 2 * h ≤ l.length) (hp : powB l (l.length - 2 * h) (2 * h) h = true) : endGo l (l.length / 2 + 1 - h) h = true := by
  rw [show l.length / 2 + 1 - h = (l.length / 2 - h) + 1 by omega, endGo, if_pos hp]
theorem endGo_miss {l : List UInt8} {h : Nat} (hh : 2 * h ≤ l.length) (hp : powB l (l.length - 2 * h) (2 * h) h = false) : endGo l (l.length / 2 + 1 - h) h = endGo l (l.length / 2 + 1 - (h + 1)) (h + 1) := by
  rw [show l.length / 2 + 1 - h = (l.length / 2 - h) + 1 by omega, endGo, if_neg (by simp [hp]), show l.length / 2 + 1 - (h + 1) = l.length / 2 - h by omega]
theorem endGo_end {l : List UInt8} {h : Nat} (hh : l.length < 2 * h) : endGo l (l.length / 2 + 1 - h) h = false := by
  rw [show l.length / 2 + 1 - h = 0 by omega]; rfl

set_option maxHeartbeats 1000000 in
theorem l07Ends_c (s : ByteArray) (w : World) (hs : s.size ≤ 1073741000) :
    Calls Try.prog 66 #[.string s] w fun e w' => e = .returned (.bool (endSq s.data.toList)) ∧ ∃ d, w' = w.drewN d := by
  have hl := Lib.hid (size_len s)
  obtain ⟨R, hR⟩ : ∃ R, R = endSq s.data.toList := ⟨_, rfl⟩
  have hst : Hid (endGo s.data.toList (s.data.toList.length / 2 + 1 - 1) 1 = R) := hR.symm
  rw [← hR]
  clear hR
  go_enter Try.func66, Try.ntmps66
  go_wp2
  go_loopw [3] (fun i wi => ∃ h d : Nat, 1 ≤ h ∧ h ≤ s.size + 1 ∧ i = .int .i64 h ∧ Hid (endGo s.data.toList (s.data.toList.length / 2 + 1 - h) h = R) ∧ wi = w.drewN d) (fun i _ => s.size + 2 - (intOf i).toNat)
  case atStart => exact ⟨1, 0, by omega, by omega, rfl, hst, rfl⟩
  case round =>
    obtain ⟨h, d', hh1, hh, rfl, hf, rfl⟩ := hrel
    obtain ⟨q, hq⟩ : ∃ q : Nat, q = 2 * h := ⟨_, rfl⟩
    have hqi : 2 * (h : Int) = (q : Int) := by omega
    have eq1 : IntKind.i64.wrap (q : Int) = (q : Int) := IntWalk.i64_in _ (by omega)
    have HQ := Lib.hid hq
    have hqb : q ≤ 2 * s.size + 2 := by omega
    by_cases hlq : q ≤ s.size
    · obtain ⟨j, hj⟩ : ∃ j : Nat, j + q = s.size := ⟨s.size - q, by omega⟩
      have hji : (s.size : Int) - (q : Int) = (j : Int) := by omega
      have HJ : Hid (s.data.toList.length - 2 * h = j) := by unfold Hid; rw [← hl.out]; omega
      have hjb : j ≤ s.size := by omega
      have hle : Hid (2 * h ≤ s.data.toList.length) := by unfold Hid; rw [← hl.out]; omega
      have HJ2 := Lib.hid hj
      have hhs : h ≤ s.size := by omega
      have hji2 : (s.size : Int) - (h : Int) = ((j + h : Nat) : Int) := by omega
      have hji3 : ((j + h : Nat) : Int) = (j : Int) + (h : Int) := by omega
      have hE := sq_eq s j h (by omega)
      rw [show j + h + h = s.size by omega] at hE
      have c1 : (j : Int) ≤ (s.size : Int) := by omega
      have c2 : (j : Int) ≤ (j : Int) + (h : Int) := by omega
      have c3 : (j : Int) + (h : Int) ≤ (s.size : Int) := by omega
      have c6 : 0 ≤ (j : Int) + (h : Int) := by omega
      have c7 : ((j : Int) + (h : Int)).toNat = j + h := by omega
      have e2 : IntKind.i64.wrap (j : Int) = (j : Int) := IntWalk.i64_in _ (by omega)
      have e3 : IntKind.i64.wrap ((j : Int) + (h : Int)) = (j : Int) + (h : Int) := IntWalk.i64_in _ (by omega)
      clear hq hj
      cases hp : powB s.data.toList j (2 * h) h
      · rw [hp] at hE
        have HP := Lib.hid hp
        clear hp
        go_wp2
        go_quiet (fail)
        go_wp2
        go_roundw
        case rel => exact ⟨h + 1, _, by omega, by omega, by go_num, by rw [← hf.out]; exact (endGo_miss hle.out (by rw [HJ.out]; exact HP.out)).symm, rfl⟩
        case measure => simp [intOf] <;> omega
      · rw [hp] at hE
        have hRt : Hid (R = true) := by unfold Hid; rw [← hf.out]; exact endGo_hit hle.out (by rw [HJ.out]; exact hp)
        clear hp
        go_wp2
        go_quiet (fail)
        go_wp2
        go_ret
        exact ⟨ret_bool (by rw [hRt.out]), _, by first | rfl | (repeat rw [World.drewN_drewN])⟩
    · have hRt : Hid (R = false) := by unfold Hid; rw [← hf.out]; exact endGo_end (by rw [← hl.out]; omega)
      clear hq
      go_wp2
      go_ret
      exact ⟨ret_bool (by rw [hRt.out]), _, rfl⟩

/-- letter k of a, b, c, d -/
def letU : Nat → UInt8
  | 0 => 97
  | 1 => 98
  | 2 => 99
  | _ => 100
theorem letter_abcd (k : Nat) (h : k < 4) : (⟨#[97, 98, 99, 100]⟩ : ByteArray).extract k (k + 1) = St [letU k] := by
  rcases (show k = 0 ∨ k = 1 ∨ k = 2 ∨ k = 3 by omega) with rfl | rfl | rfl | rfl <;> (apply str_inj; rw [ext_data]; rfl)
theorem letter_abc (k : Nat) (h : k < 3) : (⟨#[97, 98, 99]⟩ : ByteArray).extract k (k + 1) = St [letU k] := by
  rcases (show k = 0 ∨ k = 1 ∨ k = 2 by omega) with rfl | rfl | rfl <;> (apply str_inj; rw [ext_data]; rfl)
/-- a word with a letter more -/
def snoc (s : ByteArray) (k : Nat) : ByteArray := St (s.data.toList ++ [letU k])
theorem snoc_eq (s : ByteArray) (k : Nat) : s ++ St [letU k] = snoc s k := by
  apply str_inj; rw [ByteArray.data_append, Array.toList_append]; rfl
theorem snoc_size (s : ByteArray) (k : Nat) : (snoc s k).size = s.size + 1 := by rw [snoc, St_size, List.length_append, ← size_len]; rfl

/-- how many words of 'm' letters more, on the first 'K' letters, go on without a square -/
def cf (K : Nat) : Nat → List UInt8 → Nat
  | 0, _ => 1
  | m + 1, l => ((List.range K).map fun i => if endSq (l ++ [letU i]) = true then 0 else cf K m (l ++ [letU i])).sum
def cfS (K m : Nat) (l : List UInt8) (j : Nat) : Nat := ((List.range j).map fun i => if endSq (l ++ [letU i]) = true then 0 else cf K m (l ++ [letU i])).sum
theorem cf_succ (K m : Nat) (l : List UInt8) : cf K (m + 1) l = cfS K m l K := rfl
theorem cfS_zero (K m : Nat) (l : List UInt8) : cfS K m l 0 = 0 := rfl
theorem cfS_yes {K m : Nat} {s : ByteArray} {j : Nat} (h : endSq (snoc s j).data.toList = true) : cfS K m s.data.toList (j + 1) = cfS K m s.data.toList j := by
  have h' : endSq (s.data.toList ++ [letU j]) = true := h
  simp [cfS, List.range_succ, h']
theorem cfS_no {K m : Nat} {s : ByteArray} {j : Nat} (h : endSq (snoc s j).data.toList = false) : cfS K m s.data.toList (j + 1) = cfS K m s.data.toList j + cf K m (snoc s j).data.toList := by
  have h' : endSq (s.data.toList ++ [letU j]) = false := h
  simp [cfS, List.range_succ, h']; rfl
theorem cfS_mul {K m B : Nat} (hB : ∀ l, cf K m l ≤ B) (l : List UInt8) : ∀ j, cfS K m l j ≤ j * B
  | 0 => by rw [cfS_zero]; exact Nat.zero_le _
  | j + 1 => by
    have e : cfS K m l (j + 1) = cfS K m l j + (if endSq (l ++ [letU j]) = true then 0 else cf K m (l ++ [letU j])) := by simp [cfS, List.range_succ]
    have h1 := cfS_mul hB l j
    have h2 := hB (l ++ [letU j])
    rw [e, Nat.succ_mul]
    split <;> omega
theorem cf_le (K : Nat) (hK : K ≤ 3) : ∀ m l, cf K m l ≤ 3 ^ m
  | 0, l => by simp [cf]
  | m + 1, l => by
    rw [cf_succ, Nat.pow_succ, Nat.mul_comm]
    exact Nat.le_trans (cfS_mul (cf_le K hK m) l K) (Nat.mul_le_mul_right _ hK)
theorem cf_small (K m : Nat) (l : List UInt8) (hK : K ≤ 3) (hm : m ≤ 12) : cf K m l ≤ 531441 :=
  Nat.le_trans (cf_le K hK m l) (Nat.le_trans (Nat.pow_le_pow_right (by omega) hm) (by decide))
theorem cfS_small (K m : Nat) (l : List UInt8) (j : Nat) (hK : K ≤ 3) (hm : m ≤ 12) (hj : j ≤ 3) : cfS K m l j ≤ 1594323 :=
  Nat.le_trans (cfS_mul (fun l => cf_small K m l hK hm) l j) (Nat.le_trans (Nat.mul_le_mul_right _ hj) (by decide))

def csOk (K n : Int) : Bool := inB K 1 3 && inB n 0 12
def csW (K n : Int) : Int := if csOk K n = true then ((cf K.toNat n.toNat [] : Nat) : Int) else -1
theorem csOk_iff {K n : Int} : csOk K n = true ↔ 1 ≤ K ∧ K ≤ 3 ∧ 0 ≤ n ∧ n ≤ 12 := by
  simp only [csOk, Bool.and_eq_true, inB_iff]; omega

end Go.Proofs.Ythbdonlhhpmolaa
