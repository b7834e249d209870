/- Contracts of hasPower and l07Repeats: a word has a part that repeats. Conditions: a word (letters a to d, at most 400), small numbers. -/
import Derived.Test.YtlmciomoimfajaaDoorB5
namespace Go.Proofs.YtlmciomoimfajaaDoor
open Go.RowKit
set_option linter.unusedVariables false

theorem iter_drewN (w : World) (n m p : Nat) (s : ByteArray) : (((w.drewN n).iter s p)).drewN m = (w.drewN (n + m)).iter s p := by
  simp [World.iter, World.drewN, World.alloc, Nat.add_assoc]

theorem iterPos_at (w : World) (n k : Nat) (s : ByteArray) : ((w.drewN n).iter s k).iterPos w.heap.size = k := iterPos_of (World.iter_heap (w.drewN n) s k)
theorem iterPos_at2 (w : World) (n m k : Nat) (s : ByteArray) : (((w.drewN n).iter s k).drewN m).iterPos w.heap.size = k := by rw [iter_drewN]; exact iterPos_at _ _ _ _

theorem word_ascii {s : ByteArray} (hw : wordL s.data.toList = true) : ∀ k (h : k < s.size), (s[k]'h).toNat < 128 := fun k h => by
  have := abcd_iff.1 (wordL_all hw s[k] (List.mem_of_getElem (i := k) (h := by simpa using h) rfl)); omega

set_option maxHeartbeats 1000000 in
theorem hasPower_c (s : ByteArray) (t m : Nat) (w : World) (hw : wordL s.data.toList = true) (ht1 : 1 ≤ t) (ht : t ≤ 3) (hm : m ≤ 1) :
    Calls Tryd.prog 27 #[.string s, .int .i64 (t : Int), .int .i64 (m : Int)] w fun e w' => e = .returned (.bool (cB (RepP s.data.toList t m))) ∧ Below w.heap.size w w' := by
  have hs := wordL_size hw
  have hasc : ∀ k (h : k < s.size), (s[k]'h).toNat < 128 := fun k h => by
    have := abcd_iff.1 (wordL_all hw s[k] (List.mem_of_getElem (i := k) (h := by simpa using h) rfl)); omega
  have HA := Lib.hid hasc
  clear hasc
  have HW := Lib.hid hw
  clear hw
  go_enter Tryd.func27, Tryd.ntmps27
  go_wp2
  go_loopw [7] (fun i wr => ∃ P : Nat, 1 ≤ P ∧ P ≤ 401 ∧ i = .int .i64 P ∧ Hid (NoRep s.data.toList t m P) ∧ Below w.heap.size w wr) (fun i _ => 402 - (intOf i).toNat)
  case atStart => exact ⟨1, by omega, by omega, rfl, noRep_one _ _ _, Below.refl _ _⟩
  case round =>
    obtain ⟨P, hP1, hP, rfl, hno, hbw⟩ := hrel
    have hmul : t * P ≤ 1203 := by have : t * P ≤ 3 * 401 := Nat.mul_le_mul ht hP; omega
    have hmul2 : P ≤ t * P := by have : 1 * P ≤ t * P := Nat.mul_le_mul_right _ ht1; omega
    obtain ⟨q, hq⟩ : ∃ q : Nat, q = t * P := ⟨_, rfl⟩
    have hqi : (t : Int) * (P : Int) = (q : Int) := by rw [hq, Int.natCast_mul]
    have HQ := Lib.hid hq
    rw [← hq] at hmul hmul2
    clear hq
    have eq1 : IntKind.i64.wrap ((t : Int) * (P : Int)) = (q : Int) := by rw [hqi]; exact IntWalk.i64_in _ (by omega)
    by_cases hlt : q + m ≤ s.size
    · have hd : decide ((q : Int) + (m : Int) ≤ (s.size : Int)) = true := by simp; omega
      go_wp2
      obtain ⟨wo, rfl⟩ : ∃ wo : World, wo = wr := ⟨_, rfl⟩
      go_loopw [21] (fun _ wi => ∃ k n : Nat, k ≤ s.size ∧ Hid (NoRepI s.data.toList t m P k) ∧ wi = (wo.drewN n).iter s k) (fun _ wi => s.size - wi.iterPos wo.heap.size)
      case atStart => exact ⟨0, 0, Nat.zero_le _, noRepI_zero _ _ _ _, rfl⟩
      case round =>
        obtain ⟨k, n, hk, hin, rfl⟩ := hrel
        by_cases hkl : k < s.size
        · have hnx : ∀ ty, (Instr.next (.pointer (some ⟨wo.heap.size, 0, none⟩)) true ty).run Tryd.prog ((wo.drewN n).iter s k) = .ok (.tuple #[.bool true, .int .i64 k, .int .i32 (s[k]'hkl).toNat]) ((wo.drewN n).iter s (k + 1)) := fun ty => run_next_ascii (P := Tryd.prog) (wo.drewN n) s k ty hkl (HA.out k hkl)
          have hpc := Lib.hid (isPower_c s k (q + m) P ((wo.drewN n).iter s (k + 1)) (by omega) (by omega) (by omega) (by omega))
          go_wp2_with (go_at_call 23; refine (hpc.out).mono ?_; rintro e w' ⟨rfl, nn, rfl⟩)
          · have hh : powB s.data.toList k (q + m) P = true := by assumption
            go_ret
            exact ⟨ret_bool (cB_true ⟨P, k, hP1, by rw [← HQ.out]; exact powB_iff.1 hh⟩).symm, below_drewN ((below_drewN hbw n).alloc hbw.size _) nn⟩
          · have hh : powB s.data.toList k (q + m) P = false := by assumption
            go_roundw
            case rel => exact ⟨k + 1, n + nn, hkl, noRepI_succ hin.out (fun hp => by rw [← HQ.out] at hp; rw [powB_iff.2 hp] at hh; cases hh), iter_drewN _ _ _ _ _⟩
            case measure => rw [iterPos_at, iterPos_at2]; omega
        · have hks : k = s.size := by omega
          have hnx : ∀ ty, (Instr.next (.pointer (some ⟨wo.heap.size, 0, none⟩)) true ty).run Tryd.prog ((wo.drewN n).iter s k) = .ok (.tuple #[.bool false]) ((wo.drewN n).iter s k) := fun ty => run_next_end (P := Tryd.prog) (wo.drewN n) s k ty hkl
          have hall := Lib.hid (noRepI_end (P := P) (by rw [← size_len, ← hks]; exact hin.out) (by rw [← HQ.out]; omega))
          have hks' := Lib.hid hks
          clear hks
          go_wp2
          go_roundw
          case rel => exact ⟨P + 1, by omega, by omega, by go_num, noRep_next hno.out hall.out, (below_drewN hbw n).alloc hbw.size _⟩
          case measure => simp [intOf] <;> omega
    · have hfin := Lib.hid (cB_false (noRep_end hno.out (by rw [← size_len, ← HQ.out]; omega)))
      go_wp2
      go_ret
      exact ⟨ret_bool hfin.out.symm, hbw⟩

theorem eqAt_of {s : ByteArray} {P i : Nat} (h1 : i < s.size) (h2 : i + P < s.size) (he : (s[i].toNat : Int) = (s[i + P].toNat : Int)) : eqAt s.data.toList P i := by
  unfold eqAt; rw [get_some s _ h1, get_some s _ h2, byte_inj he]
theorem eqAt_not {s : ByteArray} {P i : Nat} (h1 : i < s.size) (h2 : i + P < s.size) (he : ¬ (s[i].toNat : Int) = (s[i + P].toNat : Int)) : ¬ eqAt s.data.toList P i := by
  unfold eqAt; rw [get_some s _ h1, get_some s _ h2]
  intro h
  exact he (by rw [Option.some.inj h])

end Go.Proofs.YtlmciomoimfajaaDoor
