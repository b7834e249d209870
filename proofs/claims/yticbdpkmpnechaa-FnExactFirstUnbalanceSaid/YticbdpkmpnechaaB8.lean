/- Contracts of leastPeriod, LeastPeriod, l07Period: the least period of a word. Conditions: strings of at most 2^30 bytes. -/
import Derived.Test.YticbdpkmpnechaaB4
namespace Go.Proofs.Yticbdpkmpnechaa
open Go.RowKit
set_option linter.unusedVariables false

/-- the first period from p on, of at most 'fuel' tries; 0 if there is none -/
def lpGo (l : List UInt8) : Nat → Nat → Nat
  | 0, _ => 0
  | f + 1, p => if powB l 0 l.length p = true then p else lpGo l f (p + 1)
def lpOf (l : List UInt8) : Nat := lpGo l l.length 1
theorem lpGo_hit {l : List UInt8} {f p : Nat} (hf : 1 ≤ f) (h : powB l 0 l.length p = true) : lpGo l f p = p := by
  obtain ⟨g, rfl⟩ : ∃ g, f = g + 1 := ⟨f - 1, by omega⟩
  rw [lpGo, if_pos h]
theorem lpGo_miss {l : List UInt8} {f p : Nat} (hf : 1 ≤ f) (h : powB l 0 l.length p = false) : lpGo l f p = lpGo l (f - 1) (p + 1) := by
  obtain ⟨g, rfl⟩ : ∃ g, f = g + 1 := ⟨f - 1, by omega⟩
  rw [lpGo, if_neg (by simp [h])]; rfl
theorem pow_full (l : List UInt8) : powB l 0 l.length l.length = true := powB_iff.2 ⟨by omega, fun j hj => by omega⟩

theorem lp_room {s : ByteArray} {p : Nat} (hp : p ≤ s.size) (h : powB s.data.toList 0 s.size p = false) : p + 1 ≤ s.size := by
  rcases Nat.lt_or_ge p s.size with h1 | h1
  · exact h1
  · obtain rfl : p = s.size := by omega
    have := pow_full s.data.toList
    rw [← size_len, h] at this; cases this

def lpW (s : ByteArray) : Int := if wordL s.data.toList = true then ((lpOf s.data.toList : Nat) : Int) else -1

set_option maxHeartbeats 1000000 in
theorem leastPeriod_c (s : ByteArray) (w : World) (hs : s.size ≤ 1073741000) :
    Calls Try.prog 76 #[.string s] w fun e w' => e = .returned (.int .i64 ((lpOf s.data.toList : Nat) : Int)) ∧ ∃ d, w' = w.drewN d := by
  obtain ⟨R, hR⟩ : ∃ R, R = lpOf s.data.toList := ⟨_, rfl⟩
  have hst : Hid (lpGo s.data.toList (s.size + 1 - 1) 1 = R) := by rw [hR, lpOf, ← size_len]; rfl
  rw [← hR]
  clear hR
  go_enter Try.func76, Try.ntmps76
  go_wp2
  go_loopw [3] (fun i wr => ∃ p d : Nat, 1 ≤ p ∧ p ≤ s.size + 1 ∧ i = .int .i64 p ∧ Hid (lpGo s.data.toList (s.size + 1 - p) p = R) ∧ wr = w.drewN d) (fun i _ => s.size + 1 - (intOf i).toNat)
  case atStart => exact ⟨1, 0, by omega, by omega, rfl, hst, rfl⟩
  case round =>
    obtain ⟨p, d, hp1, hp, rfl, hg, rfl⟩ := hrel
    by_cases hlt : p ≤ s.size
    · have hpc := Lib.hid (isPower_c s 0 s.size p (w.drewN d) (by omega) (by omega) (by omega) (by omega))
      go_wp2_with (go_at_call 74; refine (hpc.out).mono ?_; rintro e w' ⟨rfl, nn, rfl⟩)
      · have hh : powB s.data.toList 0 s.size p = true := by assumption
        go_ret
        exact ⟨ret_int (by rw [← hg.out, lpGo_hit (f := s.size + 1 - p) (by omega) (by rw [← size_len]; exact hh)]), _, rfl⟩
      · have hh : powB s.data.toList 0 s.size p = false := by assumption
        go_roundw
        case rel => exact ⟨p + 1, d + nn, by omega, by omega, by go_num, by rw [← hg.out, lpGo_miss (f := s.size + 1 - p) (by omega) (by rw [← size_len]; exact hh)]; rfl, rfl⟩
        case measure => simp [intOf] <;> omega
    · have hz : s.size + 1 - p = 0 := by omega
      have hfin : Hid (R = 0) := by have := hg.out; rw [hz] at this; exact this.symm
      clear hz
      go_wp2
      go_ret
      exact ⟨ret_int (by rw [hfin.out]; rfl), _, rfl⟩

set_option maxHeartbeats 1000000 in
theorem l07Period_c (s : ByteArray) (w : World) (hs : s.size ≤ 1073741000) (h1 : 1 ≤ s.size) :
    Calls Try.prog 75 #[.string s] w fun e w' => e = .returned (.int .i64 ((lpOf s.data.toList : Nat) : Int)) ∧ ∃ d, w' = w.drewN d := by
  obtain ⟨R, hR⟩ : ∃ R, R = lpOf s.data.toList := ⟨_, rfl⟩
  have hst : Hid (lpGo s.data.toList (s.size + 1 - 1) 1 = R) := by rw [hR, lpOf, ← size_len]; rfl
  rw [← hR]
  clear hR
  go_enter Try.func75, Try.ntmps75
  go_wp2
  go_loopw [3] (fun i wr => ∃ p d : Nat, 1 ≤ p ∧ p ≤ s.size ∧ i = .int .i64 p ∧ Hid (lpGo s.data.toList (s.size + 1 - p) p = R) ∧ wr = w.drewN d) (fun i _ => s.size + 1 - (intOf i).toNat)
  case atStart => exact ⟨1, 0, by omega, by omega, rfl, hst, rfl⟩
  case round =>
    obtain ⟨p, d, hp1, hp, rfl, hg, rfl⟩ := hrel
    go_wp2
    go_loopw [4, 5] (fun a b wi => ∃ (i d : Nat) (v : Bool), i + p ≤ s.size ∧ a = .bool v ∧ b = .int .i64 i ∧ Hid (v = true ↔ agree s 0 p i) ∧ wi = w.drewN d) (fun _ b _ => s.size - (intOf b).toNat)
    case atStart => exact ⟨0, d, true, by omega, rfl, rfl, ⟨fun _ => agree_zero s 0 p, fun _ => rfl⟩, rfl⟩
    case round =>
      obtain ⟨i, d', v, hi, rfl, rfl, hv, rfl⟩ := hrel
      by_cases hil : i + p < s.size
      · have b1 : (i : Int) < (s.size : Int) := by omega
        have b2 : (i : Int) + (p : Int) < (s.size : Int) := by omega
        have b0 : 0 ≤ (i : Int) + (p : Int) := by omega
        have c1 : i < s.size := by omega
        have c2 : i + p < s.size := by omega
        have e1 : IntKind.i64.wrap ((i : Int) + (p : Int)) = (i : Int) + (p : Int) := IntWalk.i64_in _ (by omega)
        have e2 : ((i : Int) + (p : Int)).toNat = i + p := by omega
        cases v
        · go_wp2
          go_quiet (fail)
          go_wp2
          go_roundw
          case rel => exact ⟨i + 1, _, false, by omega, rfl, by go_num, ⟨fun h => (by cases h), fun h => hv.out.2 (fun j a b => h j a (by omega))⟩, rfl⟩
          case measure => simp [intOf] <;> omega
        · go_wp2
          go_quiet (fail)
          go_wp2
          go_roundw
          case rel => exact ⟨i + 1, _, _, by omega, rfl, by go_num, agree_step (hv.out.1 (by simp)) c1 c2, rfl⟩
          case measure => simp [intOf] <;> omega
      · cases v
        · have hno : Hid (powB s.data.toList 0 s.size p = false) := powB_not fun h => by have := hv.out.2 (fun j a b => by have := h.2 j (by omega); simpa using this); cases this
          go_wp2
          go_roundw
          case rel => exact ⟨p + 1, _, by omega, lp_room hp hno.out, by go_num, by rw [← hg.out, lpGo_miss (f := s.size + 1 - p) (by omega) (by rw [← size_len]; exact hno.out)]; rfl, rfl⟩
          case measure => simp [intOf] <;> omega
        · have hyes : Hid (powB s.data.toList 0 s.size p = true) := pow_yes (fr := 0) (len := s.size) (k := i) (by omega) (hv.out.1 (by simp)) (by omega)
          go_wp2
          go_ret
          exact ⟨ret_int (by rw [← hg.out, lpGo_hit (f := s.size + 1 - p) (by omega) (by rw [← size_len]; exact hyes.out)]), _, rfl⟩

end Go.Proofs.Yticbdpkmpnechaa
