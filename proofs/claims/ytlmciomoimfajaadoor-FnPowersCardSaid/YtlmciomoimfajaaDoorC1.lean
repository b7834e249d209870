/- Contracts of FirstSquare in the program and in the reference. Conditions: strings of at most 2^30 bytes. -/
import Derived.Test.YtlmciomoimfajaaDoorB9
namespace Go.Proofs.YtlmciomoimfajaaDoor
open Go.RowKit
set_option linter.unusedVariables false

/-- two neighboring parts are equal -/
theorem sq_eq (s : ByteArray) (a h : Nat) (hb : a + h + h ≤ s.size) : ((s.extract a (a + h)).toList == (s.extract (a + h) (a + h + h)).toList) = powB s.data.toList a (2 * h) h := by
  have hl := size_len s
  rw [Bool.eq_iff_iff, powB_iff, Lib.toList_data, Lib.toList_data, ext_data, ext_data, beq_iff_eq]
  constructor
  · intro he
    refine ⟨by omega, fun j hj => ?_⟩
    have := congrArg (fun l => l[j]?) he
    simp only [List.getElem?_take, List.getElem?_drop] at this
    rw [if_pos (by omega), if_pos (by omega)] at this
    rw [this]; congr 1; omega
  · intro hp
    apply List.ext_getElem?
    intro j
    simp only [List.getElem?_take, List.getElem?_drop]
    by_cases hj : j < h
    · rw [if_pos (by omega), if_pos (by omega), hp.2 j (by omega)]; congr 1; omega
    · rw [if_neg (by omega), if_neg (by omega)]

def fsIn (l : List UInt8) (e : Nat) : Nat → Nat → Nat
  | 0, _ => 0
  | f + 1, h => if powB l (e - 2 * h) (2 * h) h = true then h else fsIn l e f (h + 1)
def fsOut (l : List UInt8) : Nat → Nat → Int × Int
  | 0, _ => (-1, -1)
  | f + 1, e => if fsIn l e (e / 2) 1 = 0 then fsOut l f (e + 1) else (e, fsIn l e (e / 2) 1)
theorem fsIn_hit {l : List UInt8} {e h : Nat} (hh : 2 * h ≤ e) (hp : powB l (e - 2 * h) (2 * h) h = true) : fsIn l e (e / 2 + 1 - h) h = h := by
  rw [show e / 2 + 1 - h = (e / 2 - h) + 1 by omega, fsIn, if_pos hp]
theorem fsIn_miss {l : List UInt8} {e h : Nat} (hh : 2 * h ≤ e) (hp : powB l (e - 2 * h) (2 * h) h = false) : fsIn l e (e / 2 + 1 - h) h = fsIn l e (e / 2 + 1 - (h + 1)) (h + 1) := by
  rw [show e / 2 + 1 - h = (e / 2 - h) + 1 by omega, fsIn, if_neg (by simp [hp]), show e / 2 + 1 - (h + 1) = e / 2 - h by omega]
theorem fsIn_end {l : List UInt8} {e h : Nat} (hh : e < 2 * h) : fsIn l e (e / 2 + 1 - h) h = 0 := by
  rw [show e / 2 + 1 - h = 0 by omega]; rfl
theorem fsOut_hit {l : List UInt8} {e n h : Nat} (he : e ≤ n) (h1 : 1 ≤ h) (hi : fsIn l e (e / 2) 1 = h) : fsOut l (n + 1 - e) e = ((e : Int), (h : Int)) := by
  rw [show n + 1 - e = (n - e) + 1 by omega, fsOut, if_neg (by omega), hi]
theorem fsOut_miss {l : List UInt8} {e n : Nat} (he : e ≤ n) (hi : fsIn l e (e / 2) 1 = 0) : fsOut l (n + 1 - e) e = fsOut l (n + 1 - (e + 1)) (e + 1) := by
  rw [show n + 1 - e = (n - e) + 1 by omega, fsOut, if_pos hi, show n + 1 - (e + 1) = n - e by omega]
def fsW (s : ByteArray) : Int × Int := if wordL s.data.toList = true then fsOut s.data.toList (s.size + 1 - 2) 2 else (-1, -1)
theorem ret_pair {a b : Int} {R : Int × Int} (h : (a, b) = R) : Ending.returned (.tuple #[.int .i64 a, .int .i64 b]) = .returned (.tuple #[.int .i64 R.1, .int .i64 R.2]) := by subst h; rfl

set_option maxHeartbeats 1000000 in
theorem firstSquare_i (s : ByteArray) (w : World) (hs : s.size ≤ 1073741000) :
    Calls Tryd.prog 7 #[.string s] w fun e w' => e = .returned (.tuple #[.int .i64 (fsW s).1, .int .i64 (fsW s).2]) ∧ ∃ d, w' = w.drewN d := by
  obtain ⟨R, hR⟩ : ∃ R, R = fsW s := ⟨_, rfl⟩
  rw [← hR]
  cases hw : wordL s.data.toList
  · have r1 : Hid (R = (-1, -1)) := by simp [fsW, hw, Hid, hR]
    clear hR
    go_enter Tryd.func7, Tryd.ntmps7
    go_wp2_with (go_at_call 26; refine (isWord_c _ _ (by unfold maxLen; omega)).mono ?_; rintro e w' ⟨rfl, rfl⟩)
    go_ret2
    exact ⟨ret_pair (by rw [r1.out]), 0, rfl⟩
  · have hst : Hid (fsOut s.data.toList (s.size + 1 - 2) 2 = R) := by simp [fsW, hw, Hid, hR]
    clear hR
    go_enter Tryd.func7, Tryd.ntmps7
    go_wp2_with (go_at_call 26; refine (isWord_c _ _ (by unfold maxLen; omega)).mono ?_; rintro e w' ⟨rfl, rfl⟩)
    go_loopw [4] (fun i wr => ∃ e d : Nat, 2 ≤ e ∧ i = .int .i64 e ∧ e ≤ s.size + 2 ∧ Hid (fsOut s.data.toList (s.size + 1 - e) e = R) ∧ wr = w.drewN d) (fun i _ => s.size + 2 - (intOf i).toNat)
    case atStart => exact ⟨2, 0, by omega, rfl, by omega, hst, rfl⟩
    case round =>
      obtain ⟨e, d, he2, rfl, he, hg, rfl⟩ := hrel
      by_cases hlt : e ≤ s.size
      · have hd : decide ((e : Int) ≤ (s.size : Int)) = true := by simp; omega
        go_wp2
        go_loopw [5] (fun i wi => ∃ h d : Nat, 1 ≤ h ∧ h ≤ s.size + 1 ∧ i = .int .i64 h ∧ Hid (fsIn s.data.toList e (e / 2 + 1 - h) h = fsIn s.data.toList e (e / 2) 1) ∧ wi = w.drewN d) (fun i _ => s.size + 2 - (intOf i).toNat)
        case atStart => exact ⟨1, d, by omega, by omega, rfl, rfl, rfl⟩
        case round =>
          obtain ⟨h, d', hh1, hh, rfl, hf, rfl⟩ := hrel
          obtain ⟨q, hq⟩ : ∃ q : Nat, q = 2 * h := ⟨_, rfl⟩
          have hqi : 2 * (h : Int) = (q : Int) := by omega
          have eq1 : IntKind.i64.wrap (q : Int) = (q : Int) := IntWalk.i64_in _ (by omega)
          have HQ := Lib.hid hq
          have hqb : q ≤ 2 * s.size + 2 := by omega
          by_cases hlq : q ≤ e
          · obtain ⟨j, hj⟩ : ∃ j : Nat, j + q = e := ⟨e - q, by omega⟩
            have hji : (e : Int) - (q : Int) = (j : Int) := by omega
            have HJ : Hid (e - 2 * h = j) := by unfold Hid; omega
            have hjb : j ≤ s.size := by omega
            have hle : 2 * h ≤ e := by omega
            have HJ2 := Lib.hid hj
            have hhs : h ≤ s.size := by omega
            clear hq hj
            have hpc := Lib.hid (isPower_c s j q h (w.drewN d') (by omega) (by omega) (by omega) (by omega))
            go_wp2_with (go_at_call 23; refine (hpc.out).mono ?_; rintro e w' ⟨rfl, nn, rfl⟩)
            · have hp : powB s.data.toList j q h = true := by assumption
              have hfh : Hid (fsIn s.data.toList e (e / 2) 1 = h) := by unfold Hid; rw [← hf.out]; exact fsIn_hit hle (by rw [HJ.out, ← HQ.out]; exact hp)
              go_ret2
              exact ⟨ret_pair (by rw [← hg.out]; exact (fsOut_hit hlt hh1 hfh.out).symm), _, rfl⟩
            · have hp : powB s.data.toList j q h = false := by assumption
              go_roundw
              case rel => exact ⟨h + 1, d' + nn, by omega, by omega, by go_num, by rw [← hf.out]; exact (fsIn_miss hle (by rw [HJ.out, ← HQ.out]; exact hp)).symm, rfl⟩
              case measure => simp [intOf] <;> omega
          · have hz : Hid (fsIn s.data.toList e (e / 2) 1 = 0) := by unfold Hid; rw [← hf.out]; exact fsIn_end (by omega)
            clear hq
            go_wp2
            go_roundw
            case rel => exact ⟨e + 1, d', by omega, by go_num, by omega, by rw [← hg.out]; exact (fsOut_miss hlt hz.out).symm, rfl⟩
            case measure => simp [intOf] <;> omega
      · have hfin : Hid (R = (-1, -1)) := by have := hg.out; rw [show s.size + 1 - e = 0 by omega] at this; exact this.symm
        go_wp2
        go_ret2
        exact ⟨ret_pair (by rw [hfin.out]), _, rfl⟩

end Go.Proofs.YtlmciomoimfajaaDoor
