/- Contracts of spread, SpreadOf, IsBalanced in the program and in the reference, and the walks of their laws. Conditions: none beyond the laws' own test of the length. -/
import Derived.Test.YthbdonlhhpmolaaE3
namespace Go.Proofs.Ythbdonlhhpmolaa
open Go.RowKit
set_option linter.unusedVariables false

/-- how many letters b -/
def cnt (l : List UInt8) : Nat := Lib.countByte l 98
def cntB (s : ByteArray) (n i : Nat) : Nat := cnt (s.extract i (i + n)).data.toList
def lowTo (s : ByteArray) (n : Nat) : Nat → Nat
  | 0 => n
  | i + 1 => min (lowTo s n i) (cntB s n i)
def highTo (s : ByteArray) (n : Nat) : Nat → Nat
  | 0 => 0
  | i + 1 => max (highTo s n i) (cntB s n i)
def lowOf (s : ByteArray) (n : Nat) : Nat := lowTo s n (s.size + 1 - n)
def highOf (s : ByteArray) (n : Nat) : Nat := highTo s n (s.size + 1 - n)
theorem cnt_le (l : List UInt8) : cnt l ≤ l.length := List.count_le_length
theorem cntB_le (s : ByteArray) (n i : Nat) : cntB s n i ≤ n := by
  have h1 := cnt_le (s.extract i (i + n)).data.toList
  have h2 : (s.extract i (i + n)).data.toList.length ≤ n := by rw [ext_data, List.length_take]; omega
  exact Nat.le_trans h1 h2
theorem lowTo_le (s : ByteArray) (n : Nat) : ∀ i, lowTo s n i ≤ n
  | 0 => Nat.le_refl _
  | i + 1 => by have := lowTo_le s n i; simp only [lowTo]; omega
theorem highTo_le (s : ByteArray) (n : Nat) : ∀ i, highTo s n i ≤ n
  | 0 => Nat.zero_le _
  | i + 1 => by have := highTo_le s n i; have := cntB_le s n i; simp only [highTo]; omega
theorem cnt_step (s : ByteArray) (k : Nat) (h : k < s.size) : cnt (s.data.toList.take (k + 1)) = cnt (s.data.toList.take k) + (if (s[k].toNat : Int) = 98 then 1 else 0) := by
  rw [take_snoc s k h]
  simp only [cnt, Lib.countByte, List.count_append, List.count_singleton]
  congr 1
  by_cases he : (s[k].toNat : Int) = 98
  · have : s[k] = 98 := UInt8.toNat_inj.1 (by have : (98 : UInt8).toNat = 98 := rfl; omega)
    rw [if_pos he, if_pos (by rw [this]; rfl)]
  · rw [if_neg he, if_neg]
    intro hb
    have := eq_of_beq hb
    rw [this] at he; exact he rfl
theorem cnt_yes {s : ByteArray} {k v : Nat} (hv : v = cnt (s.data.toList.take k)) (h : k < s.size) (he : ((s[k].toNat : Int) == 98) = true) : v + 1 = cnt (s.data.toList.take (k + 1)) := by
  rw [cnt_step s k h, if_pos (by simpa using he), hv]
theorem cnt_no {s : ByteArray} {k v : Nat} (hv : v = cnt (s.data.toList.take k)) (h : k < s.size) (he : ((s[k].toNat : Int) == 98) = false) : v = cnt (s.data.toList.take (k + 1)) := by
  rw [cnt_step s k h, if_neg (by simpa using he), hv]; rfl

set_option maxHeartbeats 1000000 in
theorem l02Count_c (s : ByteArray) (w : World) (hs : s.size ≤ 1073741824) :
    Calls Try.prog 97 #[.string s, .int .u8 98] w fun e w' => e = .returned (.int .i64 ((cnt s.data.toList : Nat) : Int)) ∧ w = w' := by
  go_enter Try.func97, Try.ntmps97
  go_wp2
  go_loop [5, 6] (fun a i => ∃ k v : Nat, k ≤ s.size ∧ v ≤ k ∧ i = .int .i64 k ∧ a = .int .i64 v ∧ Hid (v = cnt (s.data.toList.take k))) (fun _ i => s.size - (intOf i).toNat)
  case atStart => exact ⟨0, 0, by omega, by omega, rfl, rfl, rfl⟩
  case round =>
    obtain ⟨k, v, hk, hvk, rfl, rfl, hv⟩ := hrel
    by_cases hlt : k < s.size
    · go_wp2
      · have he : ((s[k].toNat : Int) == 98) = true := by assumption
        go_round
        case rel => exact ⟨k + 1, v + 1, by omega, by omega, by go_num, by go_num, cnt_yes hv.out hlt he⟩
        case measure => simp [intOf] <;> omega
      · have he : ((s[k].toNat : Int) == 98) = false := by assumption
        go_round
        case rel => exact ⟨k + 1, v, by omega, by omega, by go_num, rfl, cnt_no hv.out hlt he⟩
        case measure => simp [intOf] <;> omega
    · have hr : Hid ((v : Int) = ((cnt s.data.toList : Nat) : Int)) := by
        unfold Hid; rw [hv.out, List.take_of_length_le (by rw [← size_len]; omega)]
      go_wp2
      go_ret
      exact ⟨ret_int hr.out, rfl⟩

theorem low_step {s : ByteArray} {n i lo k : Nat} (h : lo = lowTo s n i) (hk : k = cntB s n i) : min lo k = lowTo s n (i + 1) := by rw [h, hk]; rfl
theorem high_step {s : ByteArray} {n i hi k : Nat} (h : hi = highTo s n i) (hk : k = cntB s n i) : max hi k = highTo s n (i + 1) := by rw [h, hk]; rfl
theorem castmax (a b : Nat) : max (a : Int) (b : Int) = ((max a b : Nat) : Int) := by omega
theorem castmin (a b : Nat) : min (a : Int) (b : Int) = ((min a b : Nat) : Int) := by omega

set_option maxHeartbeats 1000000 in
theorem spread_c (s : ByteArray) (n : Nat) (w : World) (hs : s.size ≤ 1073741824) (hn : n ≤ s.size) :
    Calls Try.prog 77 #[.string s, .int .i64 (n : Int)] w fun e w' => e = .returned (.tuple #[.int .i64 ((lowOf s n : Nat) : Int), .int .i64 ((highOf s n : Nat) : Int)]) ∧ w = w' := by
  have hlo : Hid (lowTo s n (s.size + 1 - n) = lowOf s n) := rfl
  have hhi : Hid (highTo s n (s.size + 1 - n) = highOf s n) := rfl
  go_enter Try.func77, Try.ntmps77
  go_wp2
  go_loop [6, 7, 8] (fun a b i => ∃ k lo hi : Nat, k + n ≤ s.size + 1 ∧ i = .int .i64 k ∧ a = .int .i64 lo ∧ b = .int .i64 hi ∧ Hid (lo = lowTo s n k) ∧ Hid (hi = highTo s n k)) (fun _ _ i => s.size + 1 - (intOf i).toNat)
  case atStart => exact ⟨0, n, 0, by omega, rfl, rfl, rfl, rfl, rfl⟩
  case round =>
    obtain ⟨k, lo, hi, hk, rfl, rfl, rfl, hl, hh⟩ := hrel
    have hlob : lo ≤ n := by rw [hl.out]; exact lowTo_le _ _ _
    have hhib : hi ≤ n := by rw [hh.out]; exact highTo_le _ _ _
    have e1 : IntKind.i64.wrap ((k : Int) + (n : Int)) = (k : Int) + (n : Int) := IntWalk.i64_in _ (by omega)
    by_cases hlt : k + n ≤ s.size
    · have b0 : (k : Int) + (n : Int) ≤ (s.size : Int) := by omega
      have b1 : (k : Int) ≤ (k : Int) + (n : Int) := by omega
      have b2 : 0 ≤ (k : Int) + (n : Int) := by omega
      have e2 : ((k : Int) + (n : Int)).toNat = k + n := by omega
      obtain ⟨c, hc⟩ : ∃ c, c = cntB s n k := ⟨_, rfl⟩
      have hcb : c ≤ n := by rw [hc]; exact cntB_le _ _ _
      have hcc : Hid (Lib.countByte (s.extract k (k + n)).data.toList 98 = c) := by rw [hc]; rfl
      have hq := fun W => Lib.hid (Try.strings_Count_one (s.extract k (k + n)) 98 W)
      rw [hcc.out] at hq
      have HC := Lib.hid hc
      clear hc
      go_wp2_with fail
      refine (hq _).out.mono ?_
      rintro e w' ⟨rfl, rfl⟩
      go_wp2_with fail
      go_round
      case rel => exact ⟨k + 1, min lo c, max hi c, by omega, by go_num, congrArg (Value.int .i64) (castmin lo c), congrArg (Value.int .i64) (castmax hi c), low_step hl.out HC.out, high_step hh.out HC.out⟩
      case measure => simp [intOf] <;> omega
    · have b0 : decide ((k : Int) + (n : Int) ≤ (s.size : Int)) = false := decide_eq_false (by omega)
      have hk2 : k = s.size + 1 - n := by omega
      have f1 : Hid ((lo : Int) = ((lowOf s n : Nat) : Int)) := by unfold Hid; rw [hl.out, hk2]; rfl
      have f2 : Hid ((hi : Int) = ((highOf s n : Nat) : Int)) := by unfold Hid; rw [hh.out, hk2]; rfl
      clear hk2
      go_wp2
      go_ret2
      exact ⟨ret_ii f1.out f2.out, rfl⟩

set_option maxHeartbeats 1000000 in
theorem l10Spread_c (s : ByteArray) (n : Nat) (w : World) (hs : s.size ≤ 1073741824) (hn : n ≤ s.size) :
    Calls Try.prog 75 #[.string s, .int .i64 (n : Int)] w fun e w' => e = .returned (.tuple #[.int .i64 ((lowOf s n : Nat) : Int), .int .i64 ((highOf s n : Nat) : Int)]) ∧ w = w' := by
  have hlo : Hid (lowTo s n (s.size + 1 - n) = lowOf s n) := rfl
  have hhi : Hid (highTo s n (s.size + 1 - n) = highOf s n) := rfl
  go_enter Try.func75, Try.ntmps75
  go_wp2
  go_loop [6, 7, 8] (fun a b i => ∃ k lo hi : Nat, k + n ≤ s.size + 1 ∧ i = .int .i64 k ∧ a = .int .i64 lo ∧ b = .int .i64 hi ∧ Hid (lo = lowTo s n k) ∧ Hid (hi = highTo s n k)) (fun _ _ i => s.size + 1 - (intOf i).toNat)
  case atStart => exact ⟨0, n, 0, by omega, rfl, rfl, rfl, rfl, rfl⟩
  case round =>
    obtain ⟨k, lo, hi, hk, rfl, rfl, rfl, hl, hh⟩ := hrel
    have hlob : lo ≤ n := by rw [hl.out]; exact lowTo_le _ _ _
    have hhib : hi ≤ n := by rw [hh.out]; exact highTo_le _ _ _
    have e1 : IntKind.i64.wrap ((k : Int) + (n : Int)) = (k : Int) + (n : Int) := IntWalk.i64_in _ (by omega)
    by_cases hlt : k + n ≤ s.size
    · have b0 : (k : Int) + (n : Int) ≤ (s.size : Int) := by omega
      have b1 : (k : Int) ≤ (k : Int) + (n : Int) := by omega
      have b2 : 0 ≤ (k : Int) + (n : Int) := by omega
      have e2 : ((k : Int) + (n : Int)).toNat = k + n := by omega
      obtain ⟨c, hc⟩ : ∃ c, c = cntB s n k := ⟨_, rfl⟩
      have hcb : c ≤ n := by rw [hc]; exact cntB_le _ _ _
      have hcc : Hid (cnt (s.extract k (k + n)).data.toList = c) := by rw [hc]; rfl
      have hxs : (s.extract k (k + n)).size = n := by rw [ext_size s k (k + n) hlt (by omega)]; omega
      have hq := fun W => Lib.hid (l02Count_c (s.extract k (k + n)) W (by omega))
      rw [hcc.out] at hq
      have HC := Lib.hid hc
      clear hc hxs
      go_wp2_with fail
      refine (hq _).out.mono ?_
      rintro e w' ⟨rfl, rfl⟩
      go_wp2_with fail
      go_round
      case rel => exact ⟨k + 1, min lo c, max hi c, by omega, by go_num, congrArg (Value.int .i64) (castmin lo c), congrArg (Value.int .i64) (castmax hi c), low_step hl.out HC.out, high_step hh.out HC.out⟩
      case measure => simp [intOf] <;> omega
    · have b0 : decide ((k : Int) + (n : Int) ≤ (s.size : Int)) = false := decide_eq_false (by omega)
      have hk2 : k = s.size + 1 - n := by omega
      have f1 : Hid ((lo : Int) = ((lowOf s n : Nat) : Int)) := by unfold Hid; rw [hl.out, hk2]; rfl
      have f2 : Hid ((hi : Int) = ((highOf s n : Nat) : Int)) := by unfold Hid; rw [hh.out, hk2]; rfl
      clear hk2
      go_wp2
      go_ret2
      exact ⟨ret_ii f1.out f2.out, rfl⟩
end Go.Proofs.Ythbdonlhhpmolaa
