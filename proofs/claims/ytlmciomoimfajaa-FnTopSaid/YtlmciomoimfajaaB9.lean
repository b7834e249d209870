/- Contracts of RootOf, IsPrimitiveWord in the program and in the reference. Conditions: strings of at most 2^30 bytes. -/
import Derived.Test.YtlmciomoimfajaaB4
namespace Go.Proofs.Ytlmciomoimfajaa
open Go.RowKit
set_option linter.unusedVariables false

/-- the beginning agrees with the end: a period of the whole word -/
theorem ends_eq (s : ByteArray) (p : Nat) (h : p ≤ s.size) : ((s.extract 0 (s.size - p)).toList == (s.extract p s.size).toList) = powB s.data.toList 0 s.size p := by
  have hl := size_len s
  rw [Bool.eq_iff_iff, powB_iff, Lib.toList_data, Lib.toList_data, ext_data, ext_data, beq_iff_eq]
  constructor
  · intro he
    refine ⟨by omega, fun j hj => ?_⟩
    have := congrArg (fun l => l[j]?) he
    simp only [List.getElem?_take, List.getElem?_drop] at this
    rw [if_pos (by omega), if_pos (by omega)] at this
    simpa [Nat.add_comm] using this
  · intro hp
    apply List.ext_getElem?
    intro j
    simp only [List.getElem?_take, List.getElem?_drop]
    by_cases hj : j < s.size - p
    · rw [if_pos (by omega), if_pos (by omega)]
      have := hp.2 j (by omega)
      simpa [Nat.add_comm] using this
    · rw [if_neg (by omega), if_neg (by omega)]

def rootGo (l : List UInt8) : Nat → Nat → Nat
  | 0, _ => l.length
  | f + 1, n => if l.length % n = 0 ∧ powB l 0 l.length n = true then n else rootGo l f (n + 1)
def rootOf (l : List UInt8) : Nat := rootGo l (l.length - 1) 1
theorem rootGo_hit {l : List UInt8} {n : Nat} (hn : n ≤ l.length) (h1 : l.length % n = 0) (h : powB l 0 l.length n = true) : rootGo l (l.length - n) n = n := by
  rcases Nat.eq_or_lt_of_le hn with rfl | hlt
  · rw [Nat.sub_self]; rfl
  · rw [show l.length - n = (l.length - n - 1) + 1 by omega, rootGo, if_pos ⟨h1, h⟩]
theorem rootGo_miss {l : List UInt8} {n : Nat} (hn : n < l.length) (h : ¬ (l.length % n = 0 ∧ powB l 0 l.length n = true)) : rootGo l (l.length - n) n = rootGo l (l.length - (n + 1)) (n + 1) := by
  rw [show l.length - n = (l.length - n - 1) + 1 by omega, rootGo, if_neg h, show l.length - n - 1 = l.length - (n + 1) by omega]
theorem root_full (l : List UInt8) : l.length % l.length = 0 ∧ powB l 0 l.length l.length = true := ⟨Nat.mod_self _, powB_iff.2 ⟨by omega, fun j hj => by omega⟩⟩

def rootOk (s : ByteArray) : Bool := wordL s.data.toList && !s.toList.isEmpty
def rootS (s : ByteArray) : ByteArray := if rootOk s = true then St (s.data.toList.take (rootOf s.data.toList)) else St []
def rootN (s : ByteArray) : Int := if rootOk s = true then ((s.size / rootOf s.data.toList : Nat) : Int) else 0
theorem ret_si {a b : ByteArray} {c d : Int} (h1 : a = b) (h2 : c = d) : Ending.returned (.tuple #[.string a, .int .i64 c]) = .returned (.tuple #[.string b, .int .i64 d]) := by rw [h1, h2]
theorem isEmpty_iff (s : ByteArray) : s.toList.isEmpty = true ↔ s.size = 0 := by rw [Lib.toList_data, List.isEmpty_iff, ← List.length_eq_zero_iff, ← size_len]
theorem isEmpty_no {s : ByteArray} (h : 1 ≤ s.size) : s.toList.isEmpty = false := by
  cases hx : s.toList.isEmpty with
  | false => rfl
  | true => have := (isEmpty_iff s).1 hx; omega
theorem pre_eq (s : ByteArray) (p : Nat) : s.extract 0 p = St (s.data.toList.take p) := str_inj (by rw [ext_data, St_data]; simp)

set_option maxHeartbeats 1000000 in
theorem rootOf_i (s : ByteArray) (w : World) (hs : s.size ≤ 1073741000) :
    Calls Try.prog 31 #[.string s] w fun e w' => e = .returned (.tuple #[.string (rootS s), .int .i64 (rootN s)]) ∧ ∃ d, w' = w.drewN d := by
  cases hw : wordL s.data.toList
  · have r1 : Hid (rootS s = St []) := by simp [rootS, rootOk, hw, Hid]
    have r2 : Hid (rootN s = 0) := by simp [rootN, rootOk, hw, Hid]
    go_enter Try.func31, Try.ntmps31
    go_wp2_with (go_at_call 85; refine (isWord_c _ _ (by unfold maxLen; omega)).mono ?_; rintro e w' ⟨rfl, rfl⟩)
    go_ret2
    exact ⟨ret_si r1.out.symm r2.out.symm, 0, rfl⟩
  · cases he : s.toList.isEmpty
    · have h1 : 1 ≤ s.size := by
        rcases Nat.eq_zero_or_pos s.size with h | h
        · rw [(isEmpty_iff s).2 h] at he; cases he
        · exact h
      have hl := Lib.hid (size_len s)
      obtain ⟨R, hR⟩ : ∃ R, R = rootOf s.data.toList := ⟨_, rfl⟩
      have r1 : Hid (rootS s = St (s.data.toList.take R)) := by simp [rootS, rootOk, hw, he, Hid, hR]
      have r2 : Hid (rootN s = ((s.size / R : Nat) : Int)) := by simp [rootN, rootOk, hw, he, Hid, hR]
      have hst : Hid (rootGo s.data.toList (s.data.toList.length - 1) 1 = R) := hR.symm
      clear hR
      go_enter Try.func31, Try.ntmps31
      go_wp2_with (go_at_call 85; refine (isWord_c _ _ (by unfold maxLen; omega)).mono ?_; rintro e w' ⟨rfl, rfl⟩)
      go_loopw [4] (fun i wr => ∃ p d : Nat, 1 ≤ p ∧ p ≤ s.size ∧ i = .int .i64 p ∧ Hid (rootGo s.data.toList (s.data.toList.length - p) p = R) ∧ wr = w.drewN d) (fun i _ => s.size + 1 - (intOf i).toNat)
      case atStart => exact ⟨1, 0, by omega, by omega, rfl, hst, rfl⟩
      case round =>
        obtain ⟨p, d, hp1, hp, rfl, hg, rfl⟩ := hrel
        obtain ⟨r, hr⟩ : ∃ r : Nat, r = s.size % p := ⟨_, rfl⟩
        have hri : (s.size : Int) % (p : Int) = (r : Int) := by rw [hr]; exact (Int.natCast_emod _ _).symm
        have hri' : (s.size : Int).tmod (p : Int) = (r : Int) := by rw [Int.tmod_eq_emod_of_nonneg (by omega)]; exact hri
        obtain ⟨m, hm⟩ : ∃ m : Nat, m = s.size / p := ⟨_, rfl⟩
        have hmi : (s.size : Int) / (p : Int) = (m : Int) := by rw [hm]; exact (Int.natCast_ediv _ _).symm
        have hmi' : (s.size : Int).tdiv (p : Int) = (m : Int) := by rw [Int.tdiv_eq_ediv_of_nonneg (by omega)]; exact hmi
        have hmb : m ≤ s.size := by rw [hm]; exact Nat.div_le_self _ _
        have hmw : IntKind.i64.wrap (m : Int) = (m : Int) := IntWalk.i64_in _ (by omega)
        have HR := Lib.hid hr
        have HM := Lib.hid hm
        clear hr hm
        have hpz : ((p : Int) == 0) = false := by simp; omega
        have hpc := Lib.hid (isPower_c s 0 s.size p (w.drewN d) (by omega) (by omega) (by omega) (by omega))
        by_cases hz : r = 0
        · have hz' : ((r : Int) == 0) = true := by simp [hz]
          have HZ := Lib.hid hz
          clear hz
          go_wp2_with (go_at_call 93; refine (hpc.out).mono ?_; rintro e w' ⟨rfl, nn, rfl⟩)
          · have hh : powB s.data.toList 0 s.size p = true := by assumption
            have b1 : (p : Int) ≤ (s.size : Int) := by omega
            have hRp : Hid (R = p) := by
              unfold Hid; rw [← hg.out]
              exact rootGo_hit (by rw [← hl.out]; exact hp) (by rw [← hl.out, ← HR.out]; exact HZ.out) (by rw [← hl.out]; exact hh)
            go_quiet (fail)
            go_wp2
            go_ret2
            exact ⟨ret_si (by rw [r1.out, hRp.out]; exact pre_eq s p) (by rw [r2.out, hRp.out, HM.out]), _, by rw [World.drewN_drewN]⟩
          · have hh : powB s.data.toList 0 s.size p = false := by assumption
            have hps : p < s.size := by
              rcases Nat.lt_or_ge p s.size with h | h
              · exact h
              · obtain rfl : p = s.size := by omega
                have := (root_full s.data.toList).2; rw [← hl.out, hh] at this; cases this
            go_roundw
            case rel => exact ⟨p + 1, d + nn, by omega, by omega, by go_num, by rw [← hg.out]; exact (rootGo_miss (by rw [← hl.out]; exact hps) (fun h => by rw [← hl.out, hh] at h; cases h.2)).symm, rfl⟩
            case measure => simp [intOf] <;> omega
        · have hz' : ((r : Int) == 0) = false := by simp; omega
          have hps : p < s.size := by
            rcases Nat.lt_or_ge p s.size with h | h
            · exact h
            · obtain rfl : p = s.size := by omega
              rw [HR.out, Nat.mod_self] at hz; exact absurd rfl hz
          have HZ := Lib.hid hz
          clear hz
          go_wp2
          go_roundw
          case rel => exact ⟨p + 1, d, by omega, by omega, by go_num, by rw [← hg.out]; exact (rootGo_miss (by rw [← hl.out]; exact hps) (fun h => HZ.out (by rw [HR.out, hl.out]; exact h.1))).symm, rfl⟩
          case measure => simp [intOf] <;> omega
    · have r1 : Hid (rootS s = St []) := by simp [rootS, rootOk, he, Hid]
      have r2 : Hid (rootN s = 0) := by simp [rootN, rootOk, he, Hid]
      go_enter Try.func31, Try.ntmps31
      go_wp2_with (go_at_call 85; refine (isWord_c _ _ (by unfold maxLen; omega)).mono ?_; rintro e w' ⟨rfl, rfl⟩)
      go_ret2
      exact ⟨ret_si r1.out.symm r2.out.symm, 0, rfl⟩
theorem isPrimitive_i (s : ByteArray) (w : World) (hs : s.size ≤ 1073741000) :
    Calls Try.prog 32 #[.string s] w fun e w' => e = .returned (.bool (rootN s == 1)) ∧ ∃ d, w' = w.drewN d := by
  go_enter Try.func32, Try.ntmps32
  go_wp2_with (go_at_call 31; refine (rootOf_i _ _ hs).mono ?_; rintro e w' ⟨rfl, d, rfl⟩)
  go_ret
  exact ⟨rfl, _, rfl⟩

end Go.Proofs.Ytlmciomoimfajaa
