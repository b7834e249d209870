/- Contracts of leastPeriod, LeastPeriod, l07Period: the least period of a word. Conditions: strings of at most 2^30 bytes. -/
import Derived.Test.YtlmciomoimfajaaDoorB4
namespace Go.Proofs.YtlmciomoimfajaaDoor
open Go.RowKit
set_option linter.unusedVariables false

/-- the first period from p on, of at most 'fuel' tries; 0 if there is none -/
def lpGo (l : List UInt8) : Nat → Nat → Nat
  | 0, _ => 0
  | f + 1, p => if powB l 0 l.length p = true then p else lpGo l f (p + 1)
def lpOf (l : List UInt8) : Nat := lpGo l l.length 1
theorem lpGo_hit {l : List UInt8} {f p : Nat} (hf : 1 ≤ f) (h : powB l 0 l.length p = true) : lpGo l f p = p := by
  obtain ⟨g, rfl⟩ : ∃ g, f = g + 1 := ⟨f - 1, by omega⟩
  rw [lpGo, if_pos h]
theorem lpGo_miss {l : List UInt8} {f p : Nat} (hf : 1 ≤ f) (h : powB l 0 l.length p = false) : lpGo l f p = lpGo l (f - 1) (p + 1) := by
  obtain ⟨g, rfl⟩ : ∃ g, f = g + 1 := ⟨f - 1, by omega⟩
  rw [lpGo, if_neg (by simp [h])]; rfl
theorem pow_full (l : List UInt8) : powB l 0 l.length l.length = true := powB_iff.2 ⟨by omega, fun j hj => by omega⟩

theorem lp_room {s : ByteArray} {p : Nat} (hp : p ≤ s.size) (h : powB s.data.toList 0 s.size p = false) : p + 1 ≤ s.size := by
  rcases Nat.lt_or_ge p s.size with h1 | h1
  · exact h1
  · obtain rfl : p = s.size := by omega
    have := pow_full s.data.toList
    rw [← size_len, h] at this; cases this

def lpW (s : ByteArray) : Int := if wordL s.data.toList = true then ((lpOf s.data.toList : Nat) : Int) else -1

set_option maxHeartbeats 1000000 in
theorem leastPeriod_c (s : ByteArray) (w : World) (hs : s.size ≤ 1073741000) :
    Calls Tryd.prog 29 #[.string s] w fun e w' => e = .returned (.int .i64 ((lpOf s.data.toList : Nat) : Int)) ∧ ∃ d, w' = w.drewN d := by
  obtain ⟨R, hR⟩ : ∃ R, R = lpOf s.data.toList := ⟨_, rfl⟩
  have hst : Hid (lpGo s.data.toList (s.size + 1 - 1) 1 = R) := by rw [hR, lpOf, ← size_len]; rfl
  rw [← hR]
  clear hR
  go_enter Tryd.func29, Tryd.ntmps29
  go_wp2
  go_loopw [3] (fun i wr => ∃ p d : Nat, 1 ≤ p ∧ p ≤ s.size + 1 ∧ i = .int .i64 p ∧ Hid (lpGo s.data.toList (s.size + 1 - p) p = R) ∧ wr = w.drewN d) (fun i _ => s.size + 1 - (intOf i).toNat)
  case atStart => exact ⟨1, 0, by omega, by omega, rfl, hst, rfl⟩
  case round =>
    obtain ⟨p, d, hp1, hp, rfl, hg, rfl⟩ := hrel
    by_cases hlt : p ≤ s.size
    · have hpc := Lib.hid (isPower_c s 0 s.size p (w.drewN d) (by omega) (by omega) (by omega) (by omega))
      go_wp2_with (go_at_call 23; refine (hpc.out).mono ?_; rintro e w' ⟨rfl, nn, rfl⟩)
      · have hh : powB s.data.toList 0 s.size p = true := by assumption
        go_ret
        exact ⟨ret_int (by rw [← hg.out, lpGo_hit (f := s.size + 1 - p) (by omega) (by rw [← size_len]; exact hh)]), _, rfl⟩
      · have hh : powB s.data.toList 0 s.size p = false := by assumption
        go_roundw
        case rel => exact ⟨p + 1, d + nn, by omega, by omega, by go_num, by rw [← hg.out, lpGo_miss (f := s.size + 1 - p) (by omega) (by rw [← size_len]; exact hh)]; rfl, rfl⟩
        case measure => simp [intOf] <;> omega
    · have hz : s.size + 1 - p = 0 := by omega
      have hfin : Hid (R = 0) := by have := hg.out; rw [hz] at this; exact this.symm
      clear hz
      go_wp2
      go_ret
      exact ⟨ret_int (by rw [hfin.out]; rfl), _, rfl⟩

end Go.Proofs.YtlmciomoimfajaaDoor
