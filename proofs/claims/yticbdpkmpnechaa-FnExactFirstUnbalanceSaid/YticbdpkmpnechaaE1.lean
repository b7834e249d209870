/- Contract of the reference's l02Has: is a word a part of another: as the library's Contains says it. Conditions: strings of at most 2^30 bytes. -/
import Derived.Test.YticbdpkmpnechaaB0
import Derived.Lib.IndexMore
import Derived.Lib.IndexLaws
import Derived.Deep.QuietTactic
import Derived.BigQuiet
namespace Go.Proofs.Yticbdpkmpnechaa
open Go.RowKit
set_option linter.unusedVariables false

theorem occ_eq (s f : ByteArray) (k : Nat) (h : k + f.size ≤ s.size) : ((s.extract k (k + f.size)).toList == f.toList) = Lib.occAt s.data.toList f.data.toList k := by
  rw [Lib.occAt_iff_take _ _ _ (by rw [← size_len, ← size_len]; exact h), Lib.toList_data, Lib.toList_data, ext_data, show k + f.size - k = f.data.toList.length by rw [← size_len]; omega]
theorem has_hit {s f : ByteArray} {k : Nat} (h : Lib.NoOcc s.data.toList f.data.toList k) (hk : k + f.size ≤ s.size) (ho : Lib.occAt s.data.toList f.data.toList k = true) : Lib.contains s.data.toList f.data.toList = true := by
  have := Lib.index_hit h (by rw [← size_len]; omega) ho
  unfold Lib.contains; rw [this]; exact decide_eq_true (by omega)
theorem has_no {s f : ByteArray} {k : Nat} (h : Lib.NoOcc s.data.toList f.data.toList k) (hk : s.size < k + f.size) (hk' : k ≤ s.size + 1) : Lib.contains s.data.toList f.data.toList = false := by
  by_cases hf : f.data.toList = []
  · have hz : f.size = 0 := by rw [size_len, hf]; rfl
    have := h 0 (by omega)
    rw [hf] at this; simp [Lib.occAt] at this
  · have := Lib.index_past hf h (by rw [← size_len, ← size_len]; exact hk)
    unfold Lib.contains; rw [this]; rfl
theorem noOcc_succ {s f : List UInt8} {k : Nat} (h : Lib.NoOcc s f k) (ho : Lib.occAt s f k = false) : Lib.NoOcc s f (k + 1) := by
  intro j hj
  rcases Nat.lt_succ_iff_lt_or_eq.1 hj with hj | rfl
  · exact h j hj
  · exact ho

set_option maxHeartbeats 1000000 in
theorem l02Has_c (s f : ByteArray) (w : World) (hs : s.size ≤ 1073741000) (hf : f.size ≤ 1073741000) :
    Calls Try.prog 78 #[.string s, .string f] w fun e w' => e = .returned (.bool (Lib.contains s.data.toList f.data.toList)) ∧ w = w' := by
  have hst := Lib.hid (Lib.NoOcc.zero s.data.toList f.data.toList)
  go_enter Try.func78, Try.ntmps78
  go_wp2
  go_loop [5] (fun i => ∃ k : Nat, k ≤ s.size + 1 ∧ i = .int .i64 k ∧ Hid (Lib.NoOcc s.data.toList f.data.toList k)) (fun i => s.size + 2 - (intOf i).toNat)
  case atStart => exact ⟨0, by omega, rfl, hst⟩
  case round =>
    obtain ⟨k, hk, rfl, hno⟩ := hrel
    by_cases hlt : k + f.size ≤ s.size
    · have b0 : (k : Int) + (f.size : Int) ≤ (s.size : Int) := by omega
      have b1 : (k : Int) ≤ (k : Int) + (f.size : Int) := by omega
      have b2 : 0 ≤ (k : Int) + (f.size : Int) := by omega
      have e1 : IntKind.i64.wrap ((k : Int) + (f.size : Int)) = (k : Int) + (f.size : Int) := IntWalk.i64_in _ (by omega)
      have e2 : ((k : Int) + (f.size : Int)).toNat = k + f.size := by omega
      have hE := occ_eq s f k hlt
      cases ho : Lib.occAt s.data.toList f.data.toList k
      · have hnx := Lib.hid (noOcc_succ hno.out ho)
        rw [ho] at hE
        clear ho
        go_wp2
        go_round
        case rel => exact ⟨k + 1, by omega, by go_num, hnx⟩
        case measure => simp [intOf] <;> omega
      · have hr := Lib.hid (has_hit hno.out hlt ho)
        rw [ho] at hE
        clear ho
        go_wp2
        go_ret
        exact ⟨ret_bool hr.out.symm, rfl⟩
    · have hr := Lib.hid (has_no hno.out (by omega) hk)
      have b0 : decide ((k : Int) + (f.size : Int) ≤ (s.size : Int)) = false := decide_eq_false (by omega)
      have e1 : IntKind.i64.wrap ((k : Int) + (f.size : Int)) = (k : Int) + (f.size : Int) := IntWalk.i64_in _ (by omega)
      go_wp2
      go_ret
      exact ⟨ret_bool hr.out.symm, rfl⟩
end Go.Proofs.Yticbdpkmpnechaa
