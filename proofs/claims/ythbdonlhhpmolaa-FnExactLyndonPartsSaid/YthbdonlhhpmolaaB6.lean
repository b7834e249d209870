/- Contracts of hasPower and l07Repeats: a word has a part that repeats. Conditions: a word (letters a to d, at most 400), small numbers. -/
import Derived.Test.YthbdonlhhpmolaaB5
namespace Go.Proofs.Ythbdonlhhpmolaa
open Go.RowKit
set_option linter.unusedVariables false

theorem iter_drewN (w : World) (n m p : Nat) (s : ByteArray) : (((w.drewN n).iter s p)).drewN m = (w.drewN (n + m)).iter s p := by
  simp [World.iter, World.drewN, World.alloc, Nat.add_assoc]

theorem iterPos_at (w : World) (n k : Nat) (s : ByteArray) : ((w.drewN n).iter s k).iterPos w.heap.size = k := iterPos_of (World.iter_heap (w.drewN n) s k)
theorem iterPos_at2 (w : World) (n m k : Nat) (s : ByteArray) : (((w.drewN n).iter s k).drewN m).iterPos w.heap.size = k := by rw [iter_drewN]; exact iterPos_at _ _ _ _

theorem word_ascii {s : ByteArray} (hw : wordL s.data.toList = true) : ∀ k (h : k < s.size), (s[k]'h).toNat < 128 := fun k h => by
  have := abcd_iff.1 (wordL_all hw s[k] (List.mem_of_getElem (i := k) (h := by simpa using h) rfl)); omega

set_option maxHeartbeats 1000000 in
theorem hasPower_c (s : ByteArray) (t m : Nat) (w : World) (hw : wordL s.data.toList = true) (ht1 : 1 ≤ t) (ht : t ≤ 3) (hm : m ≤ 1) :
    Calls Try.prog 94 #[.string s, .int .i64 (t : Int), .int .i64 (m : Int)] w fun e w' => e = .returned (.bool (cB (RepP s.data.toList t m))) ∧ Below w.heap.size w w' := by
  have hs := wordL_size hw
  have hasc : ∀ k (h : k < s.size), (s[k]'h).toNat < 128 := fun k h => by
    have := abcd_iff.1 (wordL_all hw s[k] (List.mem_of_getElem (i := k) (h := by simpa using h) rfl)); omega
  have HA := Lib.hid hasc
  clear hasc
  have HW := Lib.hid hw
  clear hw
  go_enter Try.func94, Try.ntmps94
  go_wp2
  go_loopw [7] (fun i wr => ∃ P : Nat, 1 ≤ P ∧ P ≤ 401 ∧ i = .int .i64 P ∧ Hid (NoRep s.data.toList t m P) ∧ Below w.heap.size w wr) (fun i _ => 402 - (intOf i).toNat)
  case atStart => exact ⟨1, by omega, by omega, rfl, noRep_one _ _ _, Below.refl _ _⟩
  case round =>
    obtain ⟨P, hP1, hP, rfl, hno, hbw⟩ := hrel
    have hmul : t * P ≤ 1203 := by have : t * P ≤ 3 * 401 := Nat.mul_le_mul ht hP; omega
    have hmul2 : P ≤ t * P := by have : 1 * P ≤ t * P := Nat.mul_le_mul_right _ ht1; omega
    obtain ⟨q, hq⟩ : ∃ q : Nat, q = t * P := ⟨_, rfl⟩
    have hqi : (t : Int) * (P : Int) = (q : Int) := by rw [hq, Int.natCast_mul]
    have HQ := Lib.hid hq
    rw [← hq] at hmul hmul2
    clear hq
    have eq1 : IntKind.i64.wrap ((t : Int) * (P : Int)) = (q : Int) := by rw [hqi]; exact IntWalk.i64_in _ (by omega)
    by_cases hlt : q + m ≤ s.size
    · have hd : decide ((q : Int) + (m : Int) ≤ (s.size : Int)) = true := by simp; omega
      go_wp2
      obtain ⟨wo, rfl⟩ : ∃ wo : World, wo = wr := ⟨_, rfl⟩
      go_loopw [21] (fun _ wi => ∃ k n : Nat, k ≤ s.size ∧ Hid (NoRepI s.data.toList t m P k) ∧ wi = (wo.drewN n).iter s k) (fun _ wi => s.size - wi.iterPos wo.heap.size)
      case atStart => exact ⟨0, 0, Nat.zero_le _, noRepI_zero _ _ _ _, rfl⟩
      case round =>
        obtain ⟨k, n, hk, hin, rfl⟩ := hrel
        by_cases hkl : k < s.size
        · have hnx : ∀ ty, (Instr.next (.pointer (some ⟨wo.heap.size, 0, none⟩)) true ty).run Try.prog ((wo.drewN n).iter s k) = .ok (.tuple #[.bool true, .int .i64 k, .int .i32 (s[k]'hkl).toNat]) ((wo.drewN n).iter s (k + 1)) := fun ty => run_next_ascii (P := Try.prog) (wo.drewN n) s k ty hkl (HA.out k hkl)
          have hpc := Lib.hid (isPower_c s k (q + m) P ((wo.drewN n).iter s (k + 1)) (by omega) (by omega) (by omega) (by omega))
          go_wp2_with (go_at_call 64; refine (hpc.out).mono ?_; rintro e w' ⟨rfl, nn, rfl⟩)
          · have hh : powB s.data.toList k (q + m) P = true := by assumption
            go_ret
            exact ⟨ret_bool (cB_true ⟨P, k, hP1, by rw [← HQ.out]; exact powB_iff.1 hh⟩).symm, below_drewN ((below_drewN hbw n).alloc hbw.size _) nn⟩
          · have hh : powB s.data.toList k (q + m) P = false := by assumption
            go_roundw
            case rel => exact ⟨k + 1, n + nn, hkl, noRepI_succ hin.out (fun hp => by rw [← HQ.out] at hp; rw [powB_iff.2 hp] at hh; cases hh), iter_drewN _ _ _ _ _⟩
            case measure => rw [iterPos_at, iterPos_at2]; omega
        · have hks : k = s.size := by omega
          have hnx : ∀ ty, (Instr.next (.pointer (some ⟨wo.heap.size, 0, none⟩)) true ty).run Try.prog ((wo.drewN n).iter s k) = .ok (.tuple #[.bool false]) ((wo.drewN n).iter s k) := fun ty => run_next_end (P := Try.prog) (wo.drewN n) s k ty hkl
          have hall := Lib.hid (noRepI_end (P := P) (by rw [← size_len, ← hks]; exact hin.out) (by rw [← HQ.out]; omega))
          have hks' := Lib.hid hks
          clear hks
          go_wp2
          go_roundw
          case rel => exact ⟨P + 1, by omega, by omega, by go_num, noRep_next hno.out hall.out, (below_drewN hbw n).alloc hbw.size _⟩
          case measure => simp [intOf] <;> omega
    · have hfin := Lib.hid (cB_false (noRep_end hno.out (by rw [← size_len, ← HQ.out]; omega)))
      go_wp2
      go_ret
      exact ⟨ret_bool hfin.out.symm, hbw⟩

theorem eqAt_of {s : ByteArray} {P i : Nat} (h1 : i < s.size) (h2 : i + P < s.size) (he : (s[i].toNat : Int) = (s[i + P].toNat : Int)) : eqAt s.data.toList P i := by
  unfold eqAt; rw [get_some s _ h1, get_some s _ h2, byte_inj he]
theorem eqAt_not {s : ByteArray} {P i : Nat} (h1 : i < s.size) (h2 : i + P < s.size) (he : ¬ (s[i].toNat : Int) = (s[i + P].toNat : Int)) : ¬ eqAt s.data.toList P i := by
  unfold eqAt; rw [get_some s _ h1, get_some s _ h2]
  intro h
  exact he (by rw [Option.some.inj h])

set_option maxHeartbeats 1000000 in
theorem l07Repeats_c (s : ByteArray) (n m : Nat) (w : World) (hs : s.size ≤ 400) (hn1 : 1 ≤ n) (hn : n ≤ 2) (hm : m ≤ 1) :
    Calls Try.prog 93 #[.string s, .int .i64 (n : Int), .int .i64 (m : Int)] w fun e w' => e = .returned (.bool (cB (RepP s.data.toList (n + 1) m))) ∧ ∃ d, w' = w.drewN d := by
  go_enter Try.func93, Try.ntmps93
  go_wp2
  go_loopw [7] (fun i wr => ∃ P : Nat, 1 ≤ P ∧ P ≤ 401 ∧ i = .int .i64 P ∧ Hid (NoRep s.data.toList (n + 1) m P) ∧ ∃ d, wr = w.drewN d) (fun i _ => 402 - (intOf i).toNat)
  case atStart => exact ⟨1, by omega, by omega, rfl, noRep_one _ _ _, 0, rfl⟩
  case round =>
    obtain ⟨P, hP1, hP, rfl, hno, d, rfl⟩ := hrel
    have hmul : P * n ≤ 802 := by have : P * n ≤ 401 * 2 := Nat.mul_le_mul hP hn; omega
    have hmul2 : P ≤ P * n := by have : P * 1 ≤ P * n := Nat.mul_le_mul_left _ hn1; omega
    obtain ⟨q, hq⟩ : ∃ q : Nat, q = P * n := ⟨_, rfl⟩
    have hqi : (P : Int) * (n : Int) = (q : Int) := by rw [hq, Int.natCast_mul]
    have hqi' : (n : Int) * (P : Int) = (q : Int) := by rw [Int.mul_comm]; exact hqi
    have HL : Hid ((n + 1) * P + m = (q + m) + P) := by unfold Hid; rw [hq, Nat.add_mul, Nat.mul_comm n P]; omega
    rw [← hq] at hmul hmul2
    clear hq
    have eq1 : IntKind.i64.wrap ((P : Int) * (n : Int)) = (q : Int) := by rw [hqi]; exact IntWalk.i64_in _ (by omega)
    have eq2 : IntKind.i64.wrap ((n : Int) * (P : Int)) = (q : Int) := by rw [hqi']; exact IntWalk.i64_in _ (by omega)
    by_cases hlt : q + m ≤ s.size
    · have hd : decide ((q : Int) + (m : Int) + (P : Int) ≤ (s.size : Int) + (P : Int)) = true := by simp; omega
      go_wp2
      go_loopw [8, 9] (fun a b wi => ∃ r i d : Nat, i ≤ s.size ∧ a = .int .i64 r ∧ b = .int .i64 i ∧ Hid (RunInv s.data.toList P (q + m) i r) ∧ wi = w.drewN d) (fun _ b _ => s.size - (intOf b).toNat)
      case atStart => exact ⟨0, 0, d, Nat.zero_le _, rfl, rfl, runInv_zero _ _ _ (by omega), rfl⟩
      case round =>
        obtain ⟨r, i, d', hi, rfl, rfl, hri, rfl⟩ := hrel
        have hrl := hri.out.lt
        by_cases hil : i + P < s.size
        · have b1 : (i : Int) < (s.size : Int) := by omega
          have b2 : (i : Int) + (P : Int) < (s.size : Int) := by omega
          have b0 : 0 ≤ (i : Int) + (P : Int) := by omega
          have c1 : i < s.size := by omega
          have c2 : i + P < s.size := by omega
          have e1 : IntKind.i64.wrap ((i : Int) + (P : Int)) = (i : Int) + (P : Int) := IntWalk.i64_in _ (by omega)
          have e2 : ((i : Int) + (P : Int)).toNat = i + P := by omega
          go_wp2
          go_quiet (fail)
          go_wp2
          · have he : ((s[i].toNat : Int) == (s[i + P].toNat : Int)) = true := by assumption
            have hL : ((r : Int) + 1 == (q : Int) + (m : Int)) = true := by assumption
            have hL' : r + 1 = q + m := by simp at hL; omega
            have hp := run_hit hri.out (eqAt_of c1 c2 (by simpa using he)) hL' (by rw [← size_len]; omega)
            rw [← HL.out] at hp
            go_ret
            exact ⟨ret_bool (cB_true ⟨P, _, hP1, hp⟩).symm, _, rfl⟩
          · have he : ((s[i].toNat : Int) == (s[i + P].toNat : Int)) = true := by assumption
            have hL : ((r : Int) + 1 == (q : Int) + (m : Int)) = false := by assumption
            have hL' : r + 1 ≠ q + m := by simp at hL; omega
            go_roundw
            case rel => exact ⟨r + 1, i + 1, _, by omega, by go_num, by go_num, runInv_eq hri.out (eqAt_of c1 c2 (by simpa using he)) hL', rfl⟩
            case measure => simp [intOf] <;> omega
          · have he : ((s[i].toNat : Int) == (s[i + P].toNat : Int)) = false := by assumption
            go_roundw
            case rel => exact ⟨0, i + 1, _, by omega, by go_num, by go_num, runInv_ne hri.out (eqAt_not c1 c2 (by simpa using he)), rfl⟩
            case measure => simp [intOf] <;> omega
        · have hall := Lib.hid (run_end hri.out (by rw [← size_len]; omega))
          go_wp2
          go_roundw
          case rel => exact ⟨P + 1, by omega, by omega, by go_num, noRep_next hno.out (by rw [HL.out]; exact hall.out), _, rfl⟩
          case measure => simp [intOf] <;> omega
    · have hfin := Lib.hid (cB_false (noRep_end hno.out (by rw [← size_len, HL.out]; omega)))
      go_wp2
      go_ret
      exact ⟨ret_bool hfin.out.symm, _, rfl⟩
end Go.Proofs.Ythbdonlhhpmolaa
