/- Contract of isPower: do 'len' letters from 'from' on repeat after 'per' letters. Conditions: numbers that are not negative and small. -/
import Derived.Test.YtlmciomoimfajaaDoorB1
import Derived.Deep.QuietTactic
import Derived.BigQuiet
namespace Go.Proofs.YtlmciomoimfajaaDoor
open Go.RowKit
set_option linter.unusedVariables false

/-- 'len' letters from 'from' on have the period 'per' -/
def PowP (l : List UInt8) (fr len per : Nat) : Prop := fr + len ≤ l.length ∧ ∀ j, j + per < len → l[fr + j]? = l[fr + j + per]?
def powB (l : List UInt8) (fr len per : Nat) : Bool := decide (fr + len ≤ l.length) && (List.range (len - per)).all fun j => l[fr + j]? == l[fr + j + per]?
theorem powB_iff {l : List UInt8} {fr len per : Nat} : powB l fr len per = true ↔ PowP l fr len per := by
  unfold powB PowP
  simp only [Bool.and_eq_true, decide_eq_true_eq, List.all_eq_true, List.mem_range, beq_iff_eq]
  exact ⟨fun ⟨a, b⟩ => ⟨a, fun j hj => b j (by omega)⟩, fun ⟨a, b⟩ => ⟨a, fun j hj => b j (by omega)⟩⟩
theorem powB_not {l : List UInt8} {fr len per : Nat} (h : ¬ PowP l fr len per) : powB l fr len per = false := by
  cases hb : powB l fr len per with
  | false => rfl
  | true => exact absurd (powB_iff.1 hb) h

/-- the letters so far agree -/
def agree (s : ByteArray) (fr per k : Nat) : Prop := ∀ j, fr ≤ j → j < k → s.data.toList[j]? = s.data.toList[j + per]?
theorem agree_zero (s : ByteArray) (fr per : Nat) : agree s fr per fr := fun j h1 h2 => by omega
theorem get_some (s : ByteArray) (k : Nat) (h : k < s.size) : s.data.toList[k]? = some s[k] := by
  rw [List.getElem?_eq_getElem (by simpa using h)]; rfl
theorem byte_inj {a b : UInt8} (h : (a.toNat : Int) = (b.toNat : Int)) : a = b := UInt8.toNat_inj.1 (by omega)
theorem agree_succ {s : ByteArray} {fr per k : Nat} (h : agree s fr per k) (h1 : k < s.size) (h2 : k + per < s.size) (he : (s[k].toNat : Int) = (s[k + per].toNat : Int)) : agree s fr per (k + 1) := by
  intro j hj1 hj
  rcases Nat.lt_succ_iff_lt_or_eq.1 hj with hj | rfl
  · exact h j hj1 hj
  · rw [get_some s _ h1, get_some s _ h2, byte_inj he]
theorem agree_step {s : ByteArray} {fr per k : Nat} (h : agree s fr per k) (h1 : k < s.size) (h2 : k + per < s.size) (hf : fr ≤ k := by omega) :
    ((s[k].toNat : Int) == (s[k + per].toNat : Int)) = true ↔ agree s fr per (k + 1) := by
  constructor
  · intro he; exact agree_succ h h1 h2 (by simpa using he)
  · intro ha
    have := ha k hf (by omega)
    rw [get_some s _ h1, get_some s _ h2] at this
    simp [Option.some.inj this]
theorem pow_yes {s : ByteArray} {fr len per k : Nat} (hn : fr + len ≤ s.size) (h : agree s fr per k) (hk : fr + len ≤ k + per) : powB s.data.toList fr len per = true :=
  powB_iff.2 ⟨by rw [← size_len]; exact hn, fun j hj => h (fr + j) (by omega) (by omega)⟩
theorem pow_no {s : ByteArray} {fr len per k : Nat} (hf : fr ≤ k) (hk : k + per < fr + len) (h1 : k < s.size) (h2 : k + per < s.size) (he : ¬ (s[k].toNat : Int) = (s[k + per].toNat : Int)) : powB s.data.toList fr len per = false :=
  powB_not fun h => by
    have := h.2 (k - fr) (by omega)
    rw [show fr + (k - fr) = k by omega, get_some s _ h1, get_some s _ h2] at this
    exact he (by rw [Option.some.inj this])
theorem pow_far {s : ByteArray} {fr len : Nat} (per : Nat) (hn : s.size < fr + len) : powB s.data.toList fr len per = false :=
  powB_not fun h => by have := h.1; rw [← size_len] at this; omega

set_option maxHeartbeats 1000000 in
theorem isPower_c (s : ByteArray) (fr len per : Nat) (w : World) (hs : s.size ≤ 1073741824) (h1 : fr ≤ 1073741824) (h2 : len ≤ 1073741824) (h3 : per ≤ 1073741824) :
    Calls Tryd.prog 23 #[.string s, .int .i64 (fr : Int), .int .i64 (len : Int), .int .i64 (per : Int)] w fun e w' => e = .returned (.bool (powB s.data.toList fr len per)) ∧ ∃ n, w' = w.drewN n := by
  by_cases hn : s.size < fr + len
  · have hr := Lib.hid (pow_far per hn)
    go_enter Tryd.func23, Tryd.ntmps23
    go_wp2
    go_ret
    exact ⟨ret_bool hr.out.symm, 0, rfl⟩
  · go_enter Tryd.func23, Tryd.ntmps23
    go_wp2
    go_loopw [9] (fun i wr => ∃ k : Nat, fr ≤ k ∧ k ≤ fr + len ∧ i = .int .i64 k ∧ Hid (agree s fr per k) ∧ ∃ n, wr = w.drewN n) (fun i _ => fr + len - (intOf i).toNat)
    case atStart => exact ⟨fr, by omega, by omega, rfl, agree_zero s fr per, 0, rfl⟩
    case round =>
      obtain ⟨k, hk0, hk, rfl, hag, n, rfl⟩ := hrel
      by_cases hlt : k + per < fr + len
      · have b1 : (k : Int) < (s.size : Int) := by omega
        have b2 : (k : Int) + (per : Int) < (s.size : Int) := by omega
        have b0 : 0 ≤ (k : Int) + (per : Int) := by omega
        have c1 : k < s.size := by omega
        have c2 : k + per < s.size := by omega
        have e1 : IntKind.i64.wrap ((k : Int) + (per : Int)) = (k : Int) + (per : Int) := IntWalk.i64_in _ (by omega)
        have e2 : ((k : Int) + (per : Int)).toNat = k + per := by omega
        go_wp2
        go_quiet (fail)
        go_wp2
        · have he : ((s[k].toNat : Int) != (s[k + per].toNat : Int)) = true := by assumption
          go_ret
          exact ⟨ret_bool (pow_no hk0 hlt c1 c2 (by simpa using he)).symm, _, by rw [World.drewN_drewN]⟩
        · have he : ((s[k].toNat : Int) != (s[k + per].toNat : Int)) = false := by assumption
          go_roundw
          case rel => exact ⟨k + 1, by omega, by omega, by go_num, agree_succ hag.out c1 c2 (by simpa using he), _, rfl⟩
          case measure => simp [intOf] <;> omega
      · go_wp2
        go_ret
        exact ⟨ret_bool (pow_yes (by omega) hag.out (by omega)).symm, n, rfl⟩
end Go.Proofs.YtlmciomoimfajaaDoor
