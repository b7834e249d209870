/- Contracts of LongestRun in the program and in the reference. Conditions: strings of at most 2^30 bytes. -/
import Derived.Test.YtlmciomoimfajaaDoorB6
namespace Go.Proofs.YtlmciomoimfajaaDoor
open Go.RowKit
set_option linter.unusedVariables false

/-- the length of the run that ends behind k letters -/
def runAt (l : List UInt8) : Nat → Nat
  | 0 => 0
  | k + 1 => if 1 ≤ k ∧ l[k]? = l[k - 1]? then runAt l k + 1 else 1
def mostAt (l : List UInt8) : Nat → Nat
  | 0 => 0
  | k + 1 => max (mostAt l k) (runAt l (k + 1))
theorem runAt_le (l : List UInt8) : ∀ k, runAt l k ≤ k
  | 0 => Nat.le_refl _
  | k + 1 => by
    have := runAt_le l k
    unfold runAt; split <;> omega
theorem mostAt_le (l : List UInt8) : ∀ k, mostAt l k ≤ k
  | 0 => Nat.le_refl _
  | k + 1 => by
    have h1 := mostAt_le l k
    have h2 := runAt_le l (k + 1)
    unfold mostAt; omega
theorem runAt_first (l : List UInt8) : runAt l 1 = 1 := by simp [runAt]
theorem runAt_eq {s : ByteArray} {k : Nat} (hk : 1 ≤ k) (h : k < s.size) (he : (s[k].toNat : Int) = (s[k - 1].toNat : Int)) : runAt s.data.toList (k + 1) = runAt s.data.toList k + 1 := by
  rw [runAt, if_pos ⟨hk, by rw [get_some s k h, get_some s (k - 1) (by omega), byte_inj he]⟩]
theorem runAt_ne {s : ByteArray} {k : Nat} (h : k < s.size) (h' : k - 1 < s.size) (he : ¬ (s[k].toNat : Int) = (s[k - 1].toNat : Int)) : runAt s.data.toList (k + 1) = 1 := by
  rw [runAt, if_neg]
  rintro ⟨_, h2⟩
  rw [get_some s k h, get_some s (k - 1) h'] at h2
  exact he (by rw [Option.some.inj h2])
def longW (s : ByteArray) : Int := if wordL s.data.toList = true then ((mostAt s.data.toList s.size : Nat) : Int) else -1

theorem ifmax (a b : Nat) : (if (a : Int) < (b : Int) then (b : Int) else (a : Int)) = ((max a b : Nat) : Int) := by split <;> omega
theorem long_ne {l : List UInt8} {k m : Nat} (hm : m = mostAt l k) (hr : runAt l (k + 1) = 1) : Hid (max m 1 = mostAt l (k + 1)) := by unfold Hid; rw [mostAt, hr, hm]
theorem long_eq {l : List UInt8} {k m r : Nat} (hm : m = mostAt l k) (hr : r = runAt l k) (h : runAt l (k + 1) = runAt l k + 1) : Hid (max m (r + 1) = mostAt l (k + 1)) := by unfold Hid; rw [mostAt, h, hm, hr]

set_option maxHeartbeats 1000000 in
theorem longestRun_i (s : ByteArray) (w : World) (hs : s.size ≤ 1073741000) :
    Calls Tryd.prog 13 #[.string s] w fun e w' => e = .returned (.int .i64 (longW s)) ∧ Below w.heap.size w w' := by
  cases hw : wordL s.data.toList
  · have r1 : Hid (longW s = -1) := by simp [longW, hw, Hid]
    go_enter Tryd.func13, Tryd.ntmps13
    go_wp2_with (go_at_call 26; refine (isWord_c _ _ (by unfold maxLen; omega)).mono ?_; rintro e w' ⟨rfl, rfl⟩)
    go_ret
    exact ⟨ret_int r1.out.symm, Below.refl _ _⟩
  · have r1 : Hid (longW s = ((mostAt s.data.toList s.size : Nat) : Int)) := by simp [longW, hw, Hid]
    go_enter Tryd.func13, Tryd.ntmps13
    go_wp2_with (go_at_call 26; refine (isWord_c _ _ (by unfold maxLen; omega)).mono ?_; rintro e w' ⟨rfl, rfl⟩)
    go_loopw [3, 4, 11] (fun a b i wr => ∃ k m r : Nat, k ≤ s.size ∧ i = .int .i64 k ∧ a = .int .i64 m ∧ b = .int .i64 r ∧ Hid (m = mostAt s.data.toList k) ∧ Hid (r = runAt s.data.toList k) ∧ Below w.heap.size w wr) (fun _ _ i _ => s.size - (intOf i).toNat)
    case atStart => exact ⟨0, 0, 0, Nat.zero_le _, rfl, rfl, rfl, rfl, rfl, Below.refl _ _⟩
    case round =>
      obtain ⟨k, m, r, hk, rfl, rfl, rfl, hm, hr, hbw⟩ := hrel
      have hrb : r ≤ k := by rw [hr.out]; exact runAt_le _ _
      have hmb : m ≤ k := by rw [hm.out]; exact mostAt_le _ _
      by_cases hlt : k < s.size
      · by_cases h0 : 0 < k
        · have hd : decide (0 < (k : Int)) = true := by simp; omega
          have b1 : (k : Int) < (s.size : Int) := by omega
          have b2 : (k : Int) - 1 < (s.size : Int) := by omega
          have b0 : 0 ≤ (k : Int) - 1 := by omega
          have b3 : (1 : Int) ≤ (k : Int) := by omega
          have b4 : (k : Int) ≤ (s.size : Int) := by omega
          have c1 : k - 1 < s.size := by omega
          have e1 : IntKind.i64.wrap ((k : Int) - 1) = (k : Int) - 1 := IntWalk.i64_in _ (by omega)
          have e2 : ((k : Int) - 1).toNat = k - 1 := by omega
          go_wp2
          go_quiet (fail)
          go_wp2
          · have he : ((s[k].toNat : Int) != (s[k - 1].toNat : Int)) = true := by assumption
            go_roundw
            case rel => exact ⟨k + 1, max m 1, 1, by omega, by go_num, congrArg (Value.int .i64) (ifmax m 1), rfl, long_ne hm.out (runAt_ne hlt c1 (by simpa using he)), (runAt_ne hlt c1 (by simpa using he)).symm, below_drewN hbw _⟩
            case measure => simp [intOf] <;> omega
          · have he : ((s[k].toNat : Int) != (s[k - 1].toNat : Int)) = false := by assumption
            go_roundw
            case rel => exact ⟨k + 1, max m (r + 1), r + 1, by omega, by go_num, congrArg (Value.int .i64) (ifmax m (r + 1)), by go_num, long_eq hm.out hr.out (runAt_eq h0 hlt (by simpa using he)), by rw [runAt_eq h0 hlt (by simpa using he), ← hr.out]; rfl, below_drewN hbw _⟩
            case measure => simp [intOf] <;> omega
        · have hk0 : k = 0 := by omega
          subst hk0
          have hr0 : r = 0 := by omega
          have hm0 : m = 0 := by omega
          subst hr0 hm0
          go_wp2
          go_quiet (fail)
          go_wp2
          go_roundw
          case rel => exact ⟨1, 1, 1, by omega, by go_num, rfl, rfl, by simp [mostAt, runAt, Hid], (runAt_first _).symm, below_drewN hbw _⟩
          case measure => simp [intOf] <;> omega
      · have hks : k = s.size := by omega
        have hfin : Hid ((m : Int) = longW s) := by rw [r1.out, hm.out, hks]; rfl
        clear hks
        go_wp2
        go_ret
        exact ⟨ret_int hfin.out, hbw⟩

end Go.Proofs.YtlmciomoimfajaaDoor
