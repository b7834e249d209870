/- Contracts of SpreadOf and IsBalanced in the program and in the reference, and the walks of their laws. Conditions: none beyond the laws' own test of the length. -/
import Derived.Test.YthbdonlhhpmolaaE4
namespace Go.Proofs.Ythbdonlhhpmolaa
open Go.RowKit
set_option linter.unusedVariables false

def spOk (s : ByteArray) (n : Int) : Bool := binB s && inB n 1 s.size
def spLo (s : ByteArray) (n : Int) : Int := if spOk s n = true then ((lowOf s n.toNat : Nat) : Int) else -1
def spHi (s : ByteArray) (n : Int) : Int := if spOk s n = true then ((highOf s n.toNat : Nat) : Int) else -1
theorem bin_size {s : ByteArray} (h : binB s = true) : s.size ≤ 400 := by
  unfold binB at h; simp only [Bool.and_eq_true] at h; exact wordL_size h.1

set_option maxHeartbeats 1000000 in
theorem spreadOf_i (s : ByteArray) (n : Int) (w : World) (hs : s.size ≤ 1073741824) :
    Calls Try.prog 33 #[.string s, .int .i64 n] w fun e w' => e = .returned (.tuple #[.int .i64 (spLo s n), .int .i64 (spHi s n)]) ∧ Below w.heap.size w w' := by
  have h1 := fun W => Lib.hid (isBinary_i s W hs)
  have h2 := fun W => Lib.hid (within_c n 1 400 W)
  cases hb : binB s
  · rw [hb] at h1
    have r1 : Hid (spLo s n = -1) := by simp [spLo, spOk, hb, Hid]
    have r2 : Hid (spHi s n = -1) := by simp [spHi, spOk, hb, Hid]
    go_enter Try.func33, Try.ntmps33
    go_wp2_with fail
    refine (h1 _).out.mono ?_
    rintro e w' ⟨rfl, hbl⟩
    go_wp2_with fail
    go_ret2
    exact ⟨ret_ii r1.out.symm r2.out.symm, hbl⟩
  · rw [hb] at h1
    have hsz := bin_size hb
    by_cases hin : inB n 1 400 = true
    · rw [hin] at h2
      have hin' := inB_iff.1 hin
      obtain ⟨m, rfl⟩ : ∃ m : Nat, n = m := ⟨n.toNat, by omega⟩
      by_cases hle : m ≤ s.size
      · have hok : spOk s m = true := by simp [spOk, hb, inB_iff]; omega
        have r1 : Hid (spLo s m = ((lowOf s m : Nat) : Int)) := by simp [spLo, hok, Hid]
        have r2 : Hid (spHi s m = ((highOf s m : Nat) : Int)) := by simp [spHi, hok, Hid]
        have h3 := fun W => Lib.hid (spread_c s m W hs hle)
        clear hok hin hin' hb
        go_enter Try.func33, Try.ntmps33
        go_wp2_with fail
        refine (h1 _).out.mono ?_
        rintro e w' ⟨rfl, hbl⟩
        go_wp2_with fail
        refine (h2 _).out.mono ?_
        rintro e w' ⟨rfl, rfl⟩
        go_wp2_with fail
        refine (h3 _).out.mono ?_
        rintro e w' ⟨rfl, rfl⟩
        go_wp2_with fail
        go_ret2
        exact ⟨ret_ii r1.out.symm r2.out.symm, hbl⟩
      · have hok : spOk s m = false := by
          cases h : spOk s m with
          | false => rfl
          | true => simp [spOk, inB_iff] at h; omega
        have r1 : Hid (spLo s m = -1) := by simp [spLo, hok, Hid]
        have r2 : Hid (spHi s m = -1) := by simp [spHi, hok, Hid]
        clear hok hin hin' hb
        go_enter Try.func33, Try.ntmps33
        go_wp2_with fail
        refine (h1 _).out.mono ?_
        rintro e w' ⟨rfl, hbl⟩
        go_wp2_with fail
        refine (h2 _).out.mono ?_
        rintro e w' ⟨rfl, rfl⟩
        go_wp2_with fail
        go_ret2
        exact ⟨ret_ii r1.out.symm r2.out.symm, hbl⟩
    · have hok : spOk s n = false := by
        cases h : spOk s n with
        | false => rfl
        | true => refine absurd (inB_iff.2 ?_) hin; simp [spOk, inB_iff] at h; omega
      have r1 : Hid (spLo s n = -1) := by simp [spLo, hok, Hid]
      have r2 : Hid (spHi s n = -1) := by simp [spHi, hok, Hid]
      rw [Bool.not_eq_true] at hin
      rw [hin] at h2
      clear hok hb hin
      go_enter Try.func33, Try.ntmps33
      go_wp2_with fail
      refine (h1 _).out.mono ?_
      rintro e w' ⟨rfl, hbl⟩
      go_wp2_with fail
      refine (h2 _).out.mono ?_
      rintro e w' ⟨rfl, rfl⟩
      go_wp2_with fail
      go_ret2
      exact ⟨ret_ii r1.out.symm r2.out.symm, hbl⟩

set_option maxHeartbeats 1000000 in
theorem spreadOf_s (s : ByteArray) (n : Int) (w : World) (hs : s.size ≤ 1073741824) :
    Calls Try.prog 32 #[.string s, .int .i64 n] w fun e w' => e = .returned (.tuple #[.int .i64 (spLo s n), .int .i64 (spHi s n)]) ∧ w = w' := by
  have h1 := fun W => Lib.hid (isBinary_s s W hs)
  have h2 := fun W => Lib.hid (l01In_c n 1 s.size W)
  cases hb : binB s
  · rw [hb] at h1
    have r1 : Hid (spLo s n = -1) := by simp [spLo, spOk, hb, Hid]
    have r2 : Hid (spHi s n = -1) := by simp [spHi, spOk, hb, Hid]
    go_enter Try.func32, Try.ntmps32
    go_wp2_with fail
    refine (h1 _).out.mono ?_
    rintro e w' ⟨rfl, rfl⟩
    go_wp2_with fail
    go_ret2
    exact ⟨ret_ii r1.out.symm r2.out.symm, rfl⟩
  · rw [hb] at h1
    have hsz := bin_size hb
    by_cases hin : inB n 1 s.size = true
    · rw [hin] at h2
      have hin' := inB_iff.1 hin
      obtain ⟨m, rfl⟩ : ∃ m : Nat, n = m := ⟨n.toNat, by omega⟩
      have hle : m ≤ s.size := by omega
      have hok : spOk s m = true := by simp [spOk, hb, hin]
      have r1 : Hid (spLo s m = ((lowOf s m : Nat) : Int)) := by simp [spLo, hok, Hid]
      have r2 : Hid (spHi s m = ((highOf s m : Nat) : Int)) := by simp [spHi, hok, Hid]
      have h3 := fun W => Lib.hid (l10Spread_c s m W hs hle)
      clear hok hin hin' hb
      go_enter Try.func32, Try.ntmps32
      go_wp2_with fail
      refine (h1 _).out.mono ?_
      rintro e w' ⟨rfl, rfl⟩
      go_wp2_with fail
      refine (h2 _).out.mono ?_
      rintro e w' ⟨rfl, rfl⟩
      go_wp2_with fail
      refine (h3 _).out.mono ?_
      rintro e w' ⟨rfl, rfl⟩
      go_wp2_with fail
      go_ret2
      exact ⟨ret_ii r1.out.symm r2.out.symm, rfl⟩
    · rw [Bool.not_eq_true] at hin
      rw [hin] at h2
      have hok : spOk s n = false := by simp [spOk, hin]
      have r1 : Hid (spLo s n = -1) := by simp [spLo, hok, Hid]
      have r2 : Hid (spHi s n = -1) := by simp [spHi, hok, Hid]
      clear hok hb hin
      go_enter Try.func32, Try.ntmps32
      go_wp2_with fail
      refine (h1 _).out.mono ?_
      rintro e w' ⟨rfl, rfl⟩
      go_wp2_with fail
      refine (h2 _).out.mono ?_
      rintro e w' ⟨rfl, rfl⟩
      go_wp2_with fail
      go_ret2
      exact ⟨ret_ii r1.out.symm r2.out.symm, rfl⟩

theorem lawSpreadOf_w (s : ByteArray) (n : Int) (w : World) (w0 : s.size ≤ maxLen) (w1 : (Lit.int .i64 n).wf = true) :
    Calls Try.prog 9 #[.string s, .int .i64 n] w fun e w' => e = .returned (.bool true) ∧ Below w.heap.size w w' := by
  unfold maxLen at w0
  by_cases hs : 1048576 < s.size
  · go_enter Try.func9, Try.ntmps9
    go_wp2
    go_ret
    exact ⟨rfl, Below.refl _ _⟩
  · go_enter Try.func9, Try.ntmps9
    go_wp2_with (first | (go_at_call 32; refine (spreadOf_s _ _ _ (by omega)).mono ?_; rintro e w1 ⟨rfl, rfl⟩) | (go_at_call 33; refine (spreadOf_i _ _ _ (by omega)).mono ?_; rintro e w2 ⟨rfl, hb2⟩))
    go_ret
    exact ⟨rfl, hb2⟩

def balGo (s : ByteArray) : Nat → Nat → Bool
  | 0, _ => true
  | f + 1, n => if lowOf s n + 1 < highOf s n then false else balGo s f (n + 1)
def balB (s : ByteArray) : Bool := binB s && balGo s s.size 1
theorem bal_hit {s : ByteArray} {n : Nat} (hn : n ≤ s.size) (h : lowOf s n + 1 < highOf s n) : balGo s (s.size + 1 - n) n = false := by
  rw [show s.size + 1 - n = (s.size - n) + 1 by omega, balGo, if_pos h]
theorem bal_miss {s : ByteArray} {n : Nat} (hn : n ≤ s.size) (h : ¬ lowOf s n + 1 < highOf s n) : balGo s (s.size + 1 - n) n = balGo s (s.size + 1 - (n + 1)) (n + 1) := by
  rw [show s.size + 1 - n = (s.size - n) + 1 by omega, balGo, if_neg h, show s.size - n = s.size + 1 - (n + 1) by omega]
theorem bal_end {s : ByteArray} {n : Nat} (hn : s.size < n) : balGo s (s.size + 1 - n) n = true := by rw [show s.size + 1 - n = 0 by omega]; rfl

set_option maxHeartbeats 1000000 in
theorem isBalanced_i (s : ByteArray) (w : World) (hs : s.size ≤ 1073741824) :
    Calls Try.prog 35 #[.string s] w fun e w' => e = .returned (.bool (balB s)) ∧ Below w.heap.size w w' := by
  have h1 := fun W => Lib.hid (isBinary_i s W hs)
  have hcb : balB s = (binB s && balGo s s.size 1) := rfl
  rw [hcb]
  clear hcb
  cases hb : binB s
  · rw [hb] at h1
    go_enter Try.func35, Try.ntmps35
    go_wp2_with fail
    refine (h1 _).out.mono ?_
    rintro e w' ⟨rfl, hbl⟩
    go_wp2_with fail
    go_ret
    exact ⟨rfl, hbl⟩
  · rw [hb] at h1
    have hsz := bin_size hb
    obtain ⟨R, hR⟩ : ∃ R, R = balGo s s.size 1 := ⟨_, rfl⟩
    have hst : Hid (balGo s (s.size + 1 - 1) 1 = R) := hR.symm
    rw [Bool.true_and, ← hR]
    clear hR hb
    go_enter Try.func35, Try.ntmps35
    go_wp2_with fail
    refine (h1 _).out.mono ?_
    rintro e w' ⟨rfl, hbl⟩
    have HB := Lib.hid hbl
    clear hbl
    go_wp2_with fail
    go_loop [3] (fun i => ∃ n : Nat, 1 ≤ n ∧ n ≤ s.size + 1 ∧ i = .int .i64 n ∧ Hid (balGo s (s.size + 1 - n) n = R)) (fun i => s.size + 1 - (intOf i).toNat)
    case atStart => exact ⟨1, by omega, by omega, rfl, hst⟩
    case round =>
      obtain ⟨n, hn1, hn, rfl, hg⟩ := hrel
      by_cases hlt : n ≤ s.size
      · obtain ⟨lo, hlo⟩ : ∃ lo, lo = lowOf s n := ⟨_, rfl⟩
        obtain ⟨hi, hhi⟩ : ∃ hi, hi = highOf s n := ⟨_, rfl⟩
        have hlob : lo ≤ n := by rw [hlo]; exact lowTo_le _ _ _
        have hhib : hi ≤ n := by rw [hhi]; exact highTo_le _ _ _
        have h3 := fun W => Lib.hid (spread_c s n W hs hlt)
        rw [← hlo, ← hhi] at h3
        by_cases hc : lo + 1 < hi
        · have hR := Lib.hid ((bal_hit hlt (by rw [← hlo, ← hhi]; exact hc)).symm.trans hg.out)
          have c1 : decide (1 < (hi : Int) - (lo : Int)) = true := decide_eq_true (by omega)
          clear hlo hhi
          go_wp2_with fail
          refine (h3 _).out.mono ?_
          rintro e w' ⟨rfl, rfl⟩
          go_wp2_with fail
          go_ret
          exact ⟨ret_bool hR.out, HB.out⟩
        · have hnx := Lib.hid ((bal_miss hlt (by rw [← hlo, ← hhi]; exact hc)).symm.trans hg.out)
          have c1 : decide (1 < (hi : Int) - (lo : Int)) = false := decide_eq_false (by omega)
          clear hlo hhi
          go_wp2_with fail
          refine (h3 _).out.mono ?_
          rintro e w' ⟨rfl, rfl⟩
          go_wp2_with fail
          go_round
          case rel => exact ⟨n + 1, by omega, by omega, by go_num, hnx⟩
          case measure => simp [intOf] <;> omega
      · have hR := Lib.hid ((bal_end (s := s) (n := n) (by omega)).symm.trans hg.out)
        go_wp2
        go_ret
        exact ⟨ret_bool hR.out, HB.out⟩

set_option maxHeartbeats 1000000 in
theorem isBalanced_s (s : ByteArray) (w : World) (hs : s.size ≤ 1073741824) :
    Calls Try.prog 34 #[.string s] w fun e w' => e = .returned (.bool (balB s)) ∧ w = w' := by
  have h1 := fun W => Lib.hid (isBinary_s s W hs)
  have hcb : balB s = (binB s && balGo s s.size 1) := rfl
  rw [hcb]
  clear hcb
  cases hb : binB s
  · rw [hb] at h1
    go_enter Try.func34, Try.ntmps34
    go_wp2_with fail
    refine (h1 _).out.mono ?_
    rintro e w' ⟨rfl, rfl⟩
    go_wp2_with fail
    go_ret
    exact ⟨rfl, rfl⟩
  · rw [hb] at h1
    have hsz := bin_size hb
    obtain ⟨R, hR⟩ : ∃ R, R = balGo s s.size 1 := ⟨_, rfl⟩
    have hst : Hid (balGo s (s.size + 1 - 1) 1 = R) := hR.symm
    rw [Bool.true_and, ← hR]
    clear hR hb
    go_enter Try.func34, Try.ntmps34
    go_wp2_with fail
    refine (h1 _).out.mono ?_
    rintro e w' ⟨rfl, rfl⟩
    go_wp2_with fail
    go_loop [3] (fun i => ∃ n : Nat, 1 ≤ n ∧ n ≤ s.size + 1 ∧ i = .int .i64 n ∧ Hid (balGo s (s.size + 1 - n) n = R)) (fun i => s.size + 1 - (intOf i).toNat)
    case atStart => exact ⟨1, by omega, by omega, rfl, hst⟩
    case round =>
      obtain ⟨n, hn1, hn, rfl, hg⟩ := hrel
      by_cases hlt : n ≤ s.size
      · obtain ⟨lo, hlo⟩ : ∃ lo, lo = lowOf s n := ⟨_, rfl⟩
        obtain ⟨hi, hhi⟩ : ∃ hi, hi = highOf s n := ⟨_, rfl⟩
        have hlob : lo ≤ n := by rw [hlo]; exact lowTo_le _ _ _
        have hhib : hi ≤ n := by rw [hhi]; exact highTo_le _ _ _
        have h3 := fun W => Lib.hid (l10Spread_c s n W hs hlt)
        rw [← hlo, ← hhi] at h3
        by_cases hc : lo + 1 < hi
        · have hR := Lib.hid ((bal_hit hlt (by rw [← hlo, ← hhi]; exact hc)).symm.trans hg.out)
          have c1 : decide ((lo : Int) + 1 < (hi : Int)) = true := decide_eq_true (by omega)
          clear hlo hhi
          go_wp2_with fail
          refine (h3 _).out.mono ?_
          rintro e w' ⟨rfl, rfl⟩
          go_wp2_with fail
          go_ret
          exact ⟨ret_bool hR.out, rfl⟩
        · have hnx := Lib.hid ((bal_miss hlt (by rw [← hlo, ← hhi]; exact hc)).symm.trans hg.out)
          have c1 : decide ((lo : Int) + 1 < (hi : Int)) = false := decide_eq_false (by omega)
          clear hlo hhi
          go_wp2_with fail
          refine (h3 _).out.mono ?_
          rintro e w' ⟨rfl, rfl⟩
          go_wp2_with fail
          go_round
          case rel => exact ⟨n + 1, by omega, by omega, by go_num, hnx⟩
          case measure => simp [intOf] <;> omega
      · have hR := Lib.hid ((bal_end (s := s) (n := n) (by omega)).symm.trans hg.out)
        go_wp2
        go_ret
        exact ⟨ret_bool hR.out, rfl⟩

theorem lawIsBalanced_w (s : ByteArray) (w : World) (w0 : s.size ≤ maxLen) :
    Calls Try.prog 10 #[.string s] w fun e w' => e = .returned (.bool true) ∧ Below w.heap.size w w' := by
  unfold maxLen at w0
  by_cases hs : 1048576 < s.size
  · go_enter Try.func10, Try.ntmps10
    go_wp2
    go_ret
    exact ⟨rfl, Below.refl _ _⟩
  · go_enter Try.func10, Try.ntmps10
    go_wp2_with (first | (go_at_call 34; refine (isBalanced_s _ _ (by omega)).mono ?_; rintro e w1 ⟨rfl, rfl⟩) | (go_at_call 35; refine (isBalanced_i _ _ (by omega)).mono ?_; rintro e w2 ⟨rfl, hb2⟩))
    go_ret
    exact ⟨rfl, hb2⟩
end Go.Proofs.Ythbdonlhhpmolaa
