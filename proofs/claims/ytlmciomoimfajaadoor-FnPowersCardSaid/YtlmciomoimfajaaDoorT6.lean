/- Contracts of SquaresIn in the program and in the reference. Conditions: strings of at most 2^30 bytes. -/
import Derived.Test.YtlmciomoimfajaaDoorT3
import Derived.Test.YtlmciomoimfajaaDoorC1
namespace Go.Proofs.YtlmciomoimfajaaDoor
open Go.RowKit
set_option linter.unusedVariables false

set_option maxRecDepth 20000 in
set_option maxHeartbeats 2000000 in
theorem squaresIn_i (s : ByteArray) (w : World) (hs : s.size ≤ 1073741000) :
    Calls Tryd.prog 5 #[.string s] w (RetS (sqW s) w) := by
  have h1 := fun W => Lib.hid (isShortB_c s W (by omega))
  cases hok : shortB s
  · have hr : Hid (sqW s = []) := by simp [sqW, hok, Hid]
    rw [hok] at h1
    go_enter Tryd.func5, Tryd.ntmps5
    go_wp2_with fail
    refine (h1 _).out.mono ?_
    rintro e w' ⟨rfl, rfl⟩
    go_wp2_with fail
    go_ret
    exact retS_nil _ _ _ hr.out (Below.refl _ _)
  · have hsz60 := (shortB_iff.1 hok).2
    obtain ⟨R, hR⟩ : ∃ R, R = sqRows s := ⟨_, rfl⟩
    have hr : Hid (sqW s = compS (sortS R)) := by unfold Hid sqW; rw [if_pos hok, hR]; rfl
    have hRl : R.length ≤ 3601 := by have := sqRows_len hsz60; rw [hR]; omega
    have hst : Hid ([] ++ rowsP (sqP s) (fun i n => s.extract i (i + 2 * n)) (fun i => (s.size - i) / 2) (s.size - 0) 0 = R) := by rw [hR]; rfl
    have hst0 : Hid (OwnS (w.alloc (.cells #[] 9)) w.heap.size (.slice (some ⟨w.heap.size, 0, none⟩) 0 0) []) := ownS_empty w (Nat.le_refl _)
    rw [hok] at h1
    clear hok hR
    go_enter Tryd.func5, Tryd.ntmps5
    go_wp2_with fail
    refine (h1 _).out.mono ?_
    rintro e w' ⟨rfl, rfl⟩
    go_wp2_with fail
    go_loopw [3, 12] (fun o x wr => ∃ (i : Nat) (acc : List ByteArray) (v : Value), i ≤ s.size ∧ x = .int .i64 i ∧ v = o ∧ Hid (acc ++ rowsP (sqP s) (fun i n => s.extract i (i + 2 * n)) (fun i => (s.size - i) / 2) (s.size - i) i = R) ∧ Hid (OwnS wr w.heap.size v acc) ∧ Below w.heap.size w wr) (fun _ x _ => s.size - (intOf x).toNat)
    case atStart => exact ⟨0, _, _, by omega, rfl, rfl, hst, hst0, (Below.refl _ _).alloc (Nat.le_refl _) _⟩
    case round =>
      obtain ⟨i, acc, v, hi, rfl, rfl, hacc, hown, hbw⟩ := hrel
      have hsz := hbw.size
      by_cases hlt : i < s.size
      · have hin := rows_in hacc.out (by omega)
        have hnx1 : s.size - i - 1 = s.size - (i + 1) := by omega
        rw [hnx1] at hin
        go_wp2
        go_loopw [3, 5] (fun o x wi => ∃ (n f : Nat) (acc' : List ByteArray) (v' : Value), 1 ≤ n ∧ n + f = (s.size - i) / 2 + 1 ∧ x = .int .i64 (n : Int) ∧ v' = o ∧ Hid (acc' ++ (rowP (sqP s) (fun i n => s.extract i (i + 2 * n)) i f n ++ rowsP (sqP s) (fun i n => s.extract i (i + 2 * n)) (fun i => (s.size - i) / 2) (s.size - (i + 1)) (i + 1)) = R) ∧ Hid (OwnS wi w.heap.size v' acc') ∧ Below w.heap.size w wi) (fun _ x _ => s.size + 1 - (intOf x).toNat)
        case atStart => exact ⟨1, (s.size - i) / 2, acc, v, by omega, by omega, rfl, rfl, hin, hown, hbw⟩
        case round =>
          obtain ⟨n, f, acc', v', hn1, hnf, rfl, rfl, hacc', hown', hbw'⟩ := hrel
          have hsz' := hbw'.size
          have hal := Nat.le_trans (acc_le hacc'.out) hRl
          obtain ⟨q, hq⟩ : ∃ q : Nat, q = 2 * n := ⟨_, rfl⟩
          have hqi : 2 * (n : Int) = (q : Int) := by omega
          have HQ := Lib.hid hq
          have hqb : q ≤ 2 * s.size + 2 := by omega
          have b0 : 0 ≤ (i : Int) + (q : Int) := by omega
          have b1 : (i : Int) ≤ (i : Int) + (q : Int) := by omega
          have e0 : IntKind.i64.wrap (q : Int) = (q : Int) := IntWalk.i64_in _ (by omega)
          have e1 : IntKind.i64.wrap ((i : Int) + (q : Int)) = (i : Int) + (q : Int) := IntWalk.i64_in _ (by omega)
          have e2 : ((i : Int) + (q : Int)).toNat = i + q := by omega
          have hnb : n ≤ s.size + 1 := by omega
          by_cases hle : i + q ≤ s.size
          · have b2 : (i : Int) + (q : Int) ≤ (s.size : Int) := by omega
            have hf0 : 0 < f := by omega
            have hxs := ext_size s i (i + q) hle (by omega)
            have hpc := Lib.hid (isPower_c s i q n wr (by omega) (by omega) (by omega) (by omega))
            have hP : powB s.data.toList i q n = sqP s i n := by rw [hq]; rfl
            rw [hP] at hpc
            cases hp : sqP s i n
            · have hnx := row_miss hacc'.out hf0 hp
              rw [hp] at hpc
              clear hP hp hq
              go_wp2_with fail
              refine hpc.out.mono ?_
              rintro e w1 ⟨rfl, d1, rfl⟩
              go_wp2_with fail
              go_roundw
              case rel => exact ⟨n + 1, f - 1, acc', v', by omega, by omega, by go_num, rfl, hnx, hown', below_drewN hbw' _⟩
              case measure => simp [intOf] <;> omega
            · have hnx := row_hit hacc'.out hf0 hp
              have hnx2 : Hid ((acc' ++ [s.extract i (i + q)]) ++ (rowP (sqP s) (fun i n => s.extract i (i + 2 * n)) i (f - 1) (n + 1) ++ rowsP (sqP s) (fun i n => s.extract i (i + 2 * n)) (fun i => (s.size - i) / 2) (s.size - (i + 1)) (i + 1)) = R) := by rw [hq]; exact hnx
              rw [hp] at hpc
              clear hP hp hq hnx
              go_wp2_with fail
              refine hpc.out.mono ?_
              rintro e w1 ⟨rfl, d1, rfl⟩
              go_wp2_with (at_builtin; refine appS rfl _ _ rfl w.heap.size _ acc' rfl (by exact hown'.out) _ rfl (by omega) (by exact hsz') ?_; intro v2 w2 hown2 hg2)
              go_roundw
              case rel => exact ⟨n + 1, f - 1, acc' ++ [s.extract i (i + q)], v2, by omega, by omega, by go_num, rfl, hnx2, hown2, below_app (below_drewN hbw' _) hown'.out hg2 hsz'⟩
              case measure => simp [intOf] <;> omega
          · obtain rfl : f = 0 := by omega
            have b2 : decide ((i : Int) + (q : Int) ≤ (s.size : Int)) = false := decide_eq_false (by omega)
            have hnx := row_end hacc'.out
            clear hq
            go_wp2
            go_roundw
            case rel => exact ⟨i + 1, acc', v', by omega, by go_num, rfl, hnx, hown', hbw'⟩
            case measure => simp [intOf] <;> omega
      · obtain rfl : i = s.size := by omega
        have hz : s.size - s.size = 0 := by omega
        rw [hz] at hacc
        have hfin := rows_end hacc.out
        have hal := Nat.le_trans (acc_le hacc.out) hRl
        go_wp2_with fail
        refine (sortS_c v _ _ _ hown.out (by omega)).mono ?_
        rintro e w2 ⟨rfl, ho1, hg1⟩
        have HO1 := Lib.hid ho1
        have hb1 := below_app hbw hown.out hg1 hsz
        have HB1 := Lib.hid hb1
        have hs2 := hb1.size
        have hl1 := sortS_len acc
        clear ho1 hg1 hb1
        go_wp2_with fail
        refine (compactS_c v _ _ _ HO1.out (by omega)).mono ?_
        rintro e w3 ⟨v', rfl, ho2, hg2, -⟩
        have HO2 := Lib.hid ho2
        have HB2 := Lib.hid (below_app HB1.out HO1.out hg2 hs2)
        clear ho2 hg2
        go_wp2_with fail
        go_ret
        exact ⟨_, rfl, by rw [hr.out, ← hfin.out]; exact HO2.out, HB2.out⟩
end Go.Proofs.YtlmciomoimfajaaDoor
