/- Contracts of CountSquareFree in the program and in the reference. Conditions: none beyond int64 arguments. -/
import Derived.Test.YtlmciomoimfajaaDoorC1
namespace Go.Proofs.YtlmciomoimfajaaDoor
open Go.RowKit
set_option linter.unusedVariables false

/-- does a square end at the end: the first half from h on -/
def endGo (l : List UInt8) : Nat → Nat → Bool
  | 0, _ => false
  | f + 1, h => if powB l (l.length - 2 * h) (2 * h) h = true then true else endGo l f (h + 1)
def endSq (l : List UInt8) : Bool := endGo l (l.length / 2) 1
theorem endGo_hit {l : List UInt8} {h : Nat} (hh : 2 * h ≤ l.length) (hp : powB l (l.length - 2 * h) (2 * h) h = true) : endGo l (l.length / 2 + 1 - h) h = true := by
  rw [show l.length / 2 + 1 - h = (l.length / 2 - h) + 1 by omega, endGo, if_pos hp]
theorem endGo_miss {l : List UInt8} {h : Nat} (hh : 2 * h ≤ l.length) (hp : powB l (l.length - 2 * h) (2 * h) h = false) : endGo l (l.length / 2 + 1 - h) h = endGo l (l.length / 2 + 1 - (h + 1)) (h + 1) := by
  rw [show l.length / 2 + 1 - h = (l.length / 2 - h) + 1 by omega, endGo, if_neg (by simp [hp]), show l.length / 2 + 1 - (h + 1) = l.length / 2 - h by omega]
theorem endGo_end {l : List UInt8} {h : Nat} (hh : l.length < 2 * h) : endGo l (l.length / 2 + 1 - h) h = false := by
  rw [show l.length / 2 + 1 - h = 0 by omega]; rfl

set_option maxHeartbeats 1000000 in
theorem endsFree_c (s : ByteArray) (w : World) (hs : s.size ≤ 1073741000) :
    Calls Tryd.prog 49 #[.string s] w fun e w' => e = .returned (.bool (!endSq s.data.toList)) ∧ ∃ d, w' = w.drewN d := by
  have hl := Lib.hid (size_len s)
  obtain ⟨R, hR⟩ : ∃ R, R = endSq s.data.toList := ⟨_, rfl⟩
  have hst : Hid (endGo s.data.toList (s.data.toList.length / 2 + 1 - 1) 1 = R) := hR.symm
  rw [← hR]
  clear hR
  go_enter Tryd.func49, Tryd.ntmps49
  go_wp2
  go_loopw [3] (fun i wi => ∃ h d : Nat, 1 ≤ h ∧ h ≤ s.size + 1 ∧ i = .int .i64 h ∧ Hid (endGo s.data.toList (s.data.toList.length / 2 + 1 - h) h = R) ∧ wi = w.drewN d) (fun i _ => s.size + 2 - (intOf i).toNat)
  case atStart => exact ⟨1, 0, by omega, by omega, rfl, hst, rfl⟩
  case round =>
    obtain ⟨h, d', hh1, hh, rfl, hf, rfl⟩ := hrel
    obtain ⟨q, hq⟩ : ∃ q : Nat, q = 2 * h := ⟨_, rfl⟩
    have hqi : 2 * (h : Int) = (q : Int) := by omega
    have eq1 : IntKind.i64.wrap (q : Int) = (q : Int) := IntWalk.i64_in _ (by omega)
    have HQ := Lib.hid hq
    have hqb : q ≤ 2 * s.size + 2 := by omega
    by_cases hlq : q ≤ s.size
    · obtain ⟨j, hj⟩ : ∃ j : Nat, j + q = s.size := ⟨s.size - q, by omega⟩
      have hji : (s.size : Int) - (q : Int) = (j : Int) := by omega
      have HJ : Hid (s.data.toList.length - 2 * h = j) := by unfold Hid; rw [← hl.out]; omega
      have hjb : j ≤ s.size := by omega
      have hle : Hid (2 * h ≤ s.data.toList.length) := by unfold Hid; rw [← hl.out]; omega
      have HJ2 := Lib.hid hj
      have hhs : h ≤ s.size := by omega
      clear hq hj
      have hpc := Lib.hid (isPower_c s j q h (w.drewN d') (by omega) (by omega) (by omega) (by omega))
      go_wp2_with (go_at_call 23; refine (hpc.out).mono ?_; rintro e w' ⟨rfl, nn, rfl⟩)
      · have hp : powB s.data.toList j q h = true := by assumption
        have hRt : Hid (R = true) := by unfold Hid; rw [← hf.out]; exact endGo_hit hle.out (by rw [HJ.out, ← HQ.out]; exact hp)
        go_ret
        exact ⟨ret_bool (by rw [hRt.out]; rfl), _, by first | rfl | (repeat rw [World.drewN_drewN])⟩
      · have hp : powB s.data.toList j q h = false := by assumption
        go_roundw
        case rel => exact ⟨h + 1, d' + nn, by omega, by omega, by go_num, by rw [← hf.out]; exact (endGo_miss hle.out (by rw [HJ.out, ← HQ.out]; exact hp)).symm, rfl⟩
        case measure => simp [intOf] <;> omega
    · have hRt : Hid (R = false) := by unfold Hid; rw [← hf.out]; exact endGo_end (by rw [← hl.out]; omega)
      clear hq
      go_wp2
      go_ret
      exact ⟨ret_bool (by rw [hRt.out]; rfl), _, rfl⟩

/-- letter k of a, b, c, d -/
def letU : Nat → UInt8
  | 0 => 97
  | 1 => 98
  | 2 => 99
  | _ => 100
theorem letter_abcd (k : Nat) (h : k < 4) : (⟨#[97, 98, 99, 100]⟩ : ByteArray).extract k (k + 1) = St [letU k] := by
  rcases (show k = 0 ∨ k = 1 ∨ k = 2 ∨ k = 3 by omega) with rfl | rfl | rfl | rfl <;> (apply str_inj; rw [ext_data]; rfl)
theorem letter_abc (k : Nat) (h : k < 3) : (⟨#[97, 98, 99]⟩ : ByteArray).extract k (k + 1) = St [letU k] := by
  rcases (show k = 0 ∨ k = 1 ∨ k = 2 by omega) with rfl | rfl | rfl <;> (apply str_inj; rw [ext_data]; rfl)
/-- a word with a letter more -/
def snoc (s : ByteArray) (k : Nat) : ByteArray := St (s.data.toList ++ [letU k])
theorem snoc_eq (s : ByteArray) (k : Nat) : s ++ St [letU k] = snoc s k := by
  apply str_inj; rw [ByteArray.data_append, Array.toList_append]; rfl
theorem snoc_size (s : ByteArray) (k : Nat) : (snoc s k).size = s.size + 1 := by rw [snoc, St_size, List.length_append, ← size_len]; rfl

/-- how many words of 'm' letters more, on the first 'K' letters, go on without a square -/
def cf (K : Nat) : Nat → List UInt8 → Nat
  | 0, _ => 1
  | m + 1, l => ((List.range K).map fun i => if endSq (l ++ [letU i]) = true then 0 else cf K m (l ++ [letU i])).sum
def cfS (K m : Nat) (l : List UInt8) (j : Nat) : Nat := ((List.range j).map fun i => if endSq (l ++ [letU i]) = true then 0 else cf K m (l ++ [letU i])).sum
theorem cf_succ (K m : Nat) (l : List UInt8) : cf K (m + 1) l = cfS K m l K := rfl
theorem cfS_zero (K m : Nat) (l : List UInt8) : cfS K m l 0 = 0 := rfl
theorem cfS_yes {K m : Nat} {s : ByteArray} {j : Nat} (h : endSq (snoc s j).data.toList = true) : cfS K m s.data.toList (j + 1) = cfS K m s.data.toList j := by
  have h' : endSq (s.data.toList ++ [letU j]) = true := h
  simp [cfS, List.range_succ, h']
theorem cfS_no {K m : Nat} {s : ByteArray} {j : Nat} (h : endSq (snoc s j).data.toList = false) : cfS K m s.data.toList (j + 1) = cfS K m s.data.toList j + cf K m (snoc s j).data.toList := by
  have h' : endSq (s.data.toList ++ [letU j]) = false := h
  simp [cfS, List.range_succ, h']; rfl
theorem cfS_mul {K m B : Nat} (hB : ∀ l, cf K m l ≤ B) (l : List UInt8) : ∀ j, cfS K m l j ≤ j * B
  | 0 => by rw [cfS_zero]; exact Nat.zero_le _
  | j + 1 => by
    have e : cfS K m l (j + 1) = cfS K m l j + (if endSq (l ++ [letU j]) = true then 0 else cf K m (l ++ [letU j])) := by simp [cfS, List.range_succ]
    have h1 := cfS_mul hB l j
    have h2 := hB (l ++ [letU j])
    rw [e, Nat.succ_mul]
    split <;> omega
theorem cf_le (K : Nat) (hK : K ≤ 3) : ∀ m l, cf K m l ≤ 3 ^ m
  | 0, l => by simp [cf]
  | m + 1, l => by
    rw [cf_succ, Nat.pow_succ, Nat.mul_comm]
    exact Nat.le_trans (cfS_mul (cf_le K hK m) l K) (Nat.mul_le_mul_right _ hK)
theorem cf_small (K m : Nat) (l : List UInt8) (hK : K ≤ 3) (hm : m ≤ 12) : cf K m l ≤ 531441 :=
  Nat.le_trans (cf_le K hK m l) (Nat.le_trans (Nat.pow_le_pow_right (by omega) hm) (by decide))
theorem cfS_small (K m : Nat) (l : List UInt8) (j : Nat) (hK : K ≤ 3) (hm : m ≤ 12) (hj : j ≤ 3) : cfS K m l j ≤ 1594323 :=
  Nat.le_trans (cfS_mul (fun l => cf_small K m l hK hm) l j) (Nat.le_trans (Nat.mul_le_mul_right _ hj) (by decide))

set_option maxHeartbeats 1000000 in
theorem countFree_c (K n : Nat) (hK : K ≤ 3) (hn : n ≤ 12) : ∀ (m : Nat) (s : ByteArray) (w : World), s.size + m = n →
    Calls Tryd.prog 37 #[.string s, .int .i64 (K : Int), .int .i64 (n : Int)] w fun e w' => e = .returned (.int .i64 ((cf K m s.data.toList : Nat) : Int)) ∧ ∃ d, w' = w.drewN d := by
  intro m
  induction m with
  | zero =>
    intro s w hsz
    have hq : ((s.size : Int) == (n : Int)) = true := by simp; omega
    have HS := Lib.hid hsz
    clear hsz
    go_enter Tryd.func37, Tryd.ntmps37
    go_wp2_with fail
    go_ret
    exact ⟨rfl, 0, rfl⟩
  | succ m ih =>
    intro s w hsz
    have hq : ((s.size : Int) == (n : Int)) = false := by simp; omega
    have hb : s.size ≤ 12 := by omega
    have hmb : m ≤ 12 := by omega
    have HS := Lib.hid hsz
    have IH := Lib.hid ih
    clear hsz ih
    go_enter Tryd.func37, Tryd.ntmps37
    go_wp2_with fail
    go_loopw [7, 15] (fun a i wr => ∃ k v d : Nat, k ≤ K ∧ i = .int .i64 k ∧ a = .int .i64 v ∧ Hid (v = cfS K m s.data.toList k) ∧ wr = w.drewN d) (fun _ i _ => K - (intOf i).toNat)
    case atStart => exact ⟨0, 0, 0, Nat.zero_le _, rfl, rfl, rfl, rfl⟩
    case round =>
      obtain ⟨k, v, d, hk, rfl, rfl, hv, rfl⟩ := hrel
      have hvb : v ≤ 1594323 := by rw [hv.out]; exact cfS_small _ _ _ _ hK hmb (by omega)
      by_cases hlt : k < K
      · have hle := letter_abcd k (by omega)
        have hsn := snoc_eq s k
        have hsz2 := snoc_size s k
        have hef := fun W => Lib.hid (endsFree_c (snoc s k) W (by omega))
        have hrec := fun W => Lib.hid (IH.out (snoc s k) W (by have := HS.out; omega))
        have hcb := cf_small K m (snoc s k).data.toList hK hmb
        have c1 : (k : Int) + 1 ≤ 4 := by omega
        have c2 : (k : Int) ≤ (k : Int) + 1 := by omega
        have hs1 : (St [letU k]).size = 1 := rfl
        cases he : endSq (snoc s k).data.toList
        · have HE := Lib.hid he
          go_wp2_with fail
          refine (hef _).out.mono ?_
          rintro e w' ⟨rfl, d1, rfl⟩
          go_wp2_with fail
          refine (hrec _).out.mono ?_
          rintro e w' ⟨rfl, d2, rfl⟩
          go_wp2_with fail
          go_roundw
          case rel => exact ⟨k + 1, v + cf K m (snoc s k).data.toList, _, by omega, by go_num, rfl, by rw [cfS_no HE.out, ← hv.out]; rfl, rfl⟩
          case measure => simp [intOf] <;> omega
        · have HE := Lib.hid he
          go_wp2_with fail
          refine (hef _).out.mono ?_
          rintro e w' ⟨rfl, d1, rfl⟩
          go_wp2_with fail
          go_roundw
          case rel => exact ⟨k + 1, v, _, by omega, by go_num, rfl, by rw [cfS_yes HE.out, ← hv.out]; rfl, rfl⟩
          case measure => simp [intOf] <;> omega
      · have hkK : k = K := by omega
        have hfin : Hid ((v : Int) = ((cf K (m + 1) s.data.toList : Nat) : Int)) := by rw [cf_succ, hv.out, hkK]; rfl
        clear hkK
        go_wp2_with fail
        go_ret
        exact ⟨ret_int hfin.out, _, rfl⟩

def csOk (K n : Int) : Bool := inB K 1 3 && inB n 0 12
def csW (K n : Int) : Int := if csOk K n = true then ((cf K.toNat n.toNat [] : Nat) : Int) else -1
theorem csOk_iff {K n : Int} : csOk K n = true ↔ 1 ≤ K ∧ K ≤ 3 ∧ 0 ≤ n ∧ n ≤ 12 := by
  simp only [csOk, Bool.and_eq_true, inB_iff]; omega

set_option maxHeartbeats 400000 in
theorem countSquareFree_i (K n : Int) (w : World) :
    Calls Tryd.prog 19 #[.int .i64 K, .int .i64 n] w fun e w' => e = .returned (.int .i64 (csW K n)) ∧ ∃ d, w' = w.drewN d := by
  by_cases hok : csOk K n = true
  · have hb := csOk_iff.1 hok
    have h1 : inB K 1 3 = true := inB_iff.2 (by omega)
    have h2 : inB n 0 12 = true := inB_iff.2 (by omega)
    obtain ⟨a, rfl⟩ : ∃ a : Nat, K = a := ⟨K.toNat, by omega⟩
    obtain ⟨b, rfl⟩ : ∃ b : Nat, n = b := ⟨n.toNat, by omega⟩
    have hr : Hid (csW a b = ((cf a b [] : Nat) : Int)) := by unfold Hid csW; rw [if_pos hok]; rfl
    have hc := fun W => Lib.hid (countFree_c a b (by omega) (by omega) b ⟨#[]⟩ W (Nat.zero_add _))
    clear hok
    go_enter Tryd.func19, Tryd.ntmps19
    go_wp2_with (first | (go_at_call 34; refine (within_c _ _ _ _).mono ?_; rintro e w' ⟨rfl, rfl⟩) | (go_at_call 37; refine (hc _).out.mono ?_; rintro e w' ⟨rfl, d, rfl⟩))
    go_ret
    exact ⟨ret_int hr.out.symm, _, rfl⟩
  · have hr : Hid (csW K n = -1) := if_neg hok
    have ht : Hid (inB K 1 3 = true → (!inB n 0 12) = false → False) := fun a b => hok (by simp only [Bool.not_eq_false'] at b; simp [csOk, a, b])
    clear hok
    go_enter Tryd.func19, Tryd.ntmps19
    go_wp2_with (go_at_call 34; refine (within_c _ _ _ _).mono ?_; rintro e w' ⟨rfl, rfl⟩)
    all_goals first | exact (ht.out (by assumption) (by assumption)).elim | (go_ret; exact ⟨ret_int hr.out.symm, 0, rfl⟩)

end Go.Proofs.YtlmciomoimfajaaDoor
