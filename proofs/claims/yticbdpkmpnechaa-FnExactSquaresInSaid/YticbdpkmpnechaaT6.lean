/- Contracts of SquaresIn in the program and in the reference. Conditions: strings of at most 2^30 bytes. -/
import Derived.Test.YticbdpkmpnechaaT3
import Derived.Test.YticbdpkmpnechaaC1
namespace Go.Proofs.Yticbdpkmpnechaa
open Go.RowKit
set_option linter.unusedVariables false

set_option maxRecDepth 20000 in
set_option maxHeartbeats 2000000 in
theorem squaresIn_i (s : ByteArray) (w : World) (hs : s.size ≤ 1073741000) :
    Calls Try.prog 38 #[.string s] w (RetS (sqW s) w) := by
  have h1 := fun W => Lib.hid (isShortB_c s W (by omega))
  cases hok : shortB s
  · have hr : Hid (sqW s = []) := by simp [sqW, hok, Hid]
    rw [hok] at h1
    go_enter Try.func38, Try.ntmps38
    go_wp2_with fail
    refine (h1 _).out.mono ?_
    rintro e w' ⟨rfl, rfl⟩
    go_wp2_with fail
    go_ret
    exact retS_nil _ _ _ hr.out (Below.refl _ _)
  · have hsz60 := (shortB_iff.1 hok).2
    obtain ⟨R, hR⟩ : ∃ R, R = sqRows s := ⟨_, rfl⟩
    have hr : Hid (sqW s = compS (sortS R)) := by unfold Hid sqW; rw [if_pos hok, hR]; rfl
    have hRl : R.length ≤ 3601 := by have := sqRows_len hsz60; rw [hR]; omega
    have hst : Hid ([] ++ rowsP (sqP s) (fun i n => s.extract i (i + 2 * n)) (fun i => (s.size - i) / 2) (s.size - 0) 0 = R) := by rw [hR]; rfl
    have hst0 : Hid (OwnS (w.alloc (.cells #[] 9)) w.heap.size (.slice (some ⟨w.heap.size, 0, none⟩) 0 0) []) := ownS_empty w (Nat.le_refl _)
    rw [hok] at h1
    clear hok hR
    go_enter Try.func38, Try.ntmps38
    go_wp2_with fail
    refine (h1 _).out.mono ?_
    rintro e w' ⟨rfl, rfl⟩
    go_wp2_with fail
    go_loopw [3, 12] (fun o x wr => ∃ (i : Nat) (acc : List ByteArray) (v : Value), i ≤ s.size ∧ x = .int .i64 i ∧ v = o ∧ Hid (acc ++ rowsP (sqP s) (fun i n => s.extract i (i + 2 * n)) (fun i => (s.size - i) / 2) (s.size - i) i = R) ∧ Hid (OwnS wr w.heap.size v acc) ∧ Below w.heap.size w wr) (fun _ x _ => s.size - (intOf x).toNat)
    case atStart => exact ⟨0, _, _, by omega, rfl, rfl, hst, hst0, (Below.refl _ _).alloc (Nat.le_refl _) _⟩
    case round =>
      obtain ⟨i, acc, v, hi, rfl, rfl, hacc, hown, hbw⟩ := hrel
      have hsz := hbw.size
      by_cases hlt : i < s.size
      · have hin := rows_in hacc.out (by omega)
        have hnx1 : s.size - i - 1 = s.size - (i + 1) := by omega
        rw [hnx1] at hin
        go_wp2
        go_loopw [3, 5] (fun o x wi => ∃ (n f : Nat) (acc' : List ByteArray) (v' : Value), 1 ≤ n ∧ n + f = (s.size - i) / 2 + 1 ∧ x = .int .i64 (n : Int) ∧ v' = o ∧ Hid (acc' ++ (rowP (sqP s) (fun i n => s.extract i (i + 2 * n)) i f n ++ rowsP (sqP s) (fun i n => s.extract i (i + 2 * n)) (fun i => (s.size - i) / 2) (s.size - (i + 1)) (i + 1)) = R) ∧ Hid (OwnS wi w.heap.size v' acc') ∧ Below w.heap.size w wi) (fun _ x _ => s.size + 1 - (intOf x).toNat)
        case atStart => exact ⟨1, (s.size - i) / 2, acc, v, by omega, by omega, rfl, rfl, hin, hown, hbw⟩
        case round =>
          obtain ⟨n, f, acc', v', hn1, hnf, rfl, rfl, hacc', hown', hbw'⟩ := hrel
          have hsz' := hbw'.size
          have hal := Nat.le_trans (acc_le hacc'.out) hRl
          obtain ⟨q, hq⟩ : ∃ q : Nat, q = 2 * n := ⟨_, rfl⟩
          have hqi : 2 * (n : Int) = (q : Int) := by omega
          have HQ := Lib.hid hq
          have hqb : q ≤ 2 * s.size + 2 := by omega
          have b0 : 0 ≤ (i : Int) + (q : Int) := by omega
          have b1 : (i : Int) ≤ (i : Int) + (q : Int) := by omega
          have e0 : IntKind.i64.wrap (q : Int) = (q : Int) := IntWalk.i64_in _ (by omega)
          have e1 : IntKind.i64.wrap ((i : Int) + (q : Int)) = (i : Int) + (q : Int) := IntWalk.i64_in _ (by omega)
          have e2 : ((i : Int) + (q : Int)).toNat = i + q := by omega
          have hnb : n ≤ s.size + 1 := by omega
          by_cases hle : i + q ≤ s.size
          · have b2 : (i : Int) + (q : Int) ≤ (s.size : Int) := by omega
            have hf0 : 0 < f := by omega
            have hxs := ext_size s i (i + q) hle (by omega)
            have hpc := Lib.hid (isPower_c s i q n wr (by omega) (by omega) (by omega) (by omega))
            have hP : powB s.data.toList i q n = sqP s i n := by rw [hq]; rfl
            rw [hP] at hpc
            cases hp : sqP s i n
            · have hnx := row_miss hacc'.out hf0 hp
              rw [hp] at hpc
              clear hP hp hq
              go_wp2_with fail
              refine hpc.out.mono ?_
              rintro e w1 ⟨rfl, d1, rfl⟩
              go_wp2_with fail
              go_roundw
              case rel => exact ⟨n + 1, f - 1, acc', v', by omega, by omega, by go_num, rfl, hnx, hown', below_drewN hbw' _⟩
              case measure => simp [intOf] <;> omega
            · have hnx := row_hit hacc'.out hf0 hp
              have hnx2 : Hid ((acc' ++ [s.extract i (i + q)]) ++ (rowP (sqP s) (fun i n => s.extract i (i + 2 * n)) i (f - 1) (n + 1) ++ rowsP (sqP s) (fun i n => s.extract i (i + 2 * n)) (fun i => (s.size - i) / 2) (s.size - (i + 1)) (i + 1)) = R) := by rw [hq]; exact hnx
              rw [hp] at hpc
              clear hP hp hq hnx
              go_wp2_with fail
              refine hpc.out.mono ?_
              rintro e w1 ⟨rfl, d1, rfl⟩
              go_wp2_with (at_builtin; refine appS rfl _ _ rfl w.heap.size _ acc' rfl (by exact hown'.out) _ rfl (by omega) (by exact hsz') ?_; intro v2 w2 hown2 hg2)
              go_roundw
              case rel => exact ⟨n + 1, f - 1, acc' ++ [s.extract i (i + q)], v2, by omega, by omega, by go_num, rfl, hnx2, hown2, below_app (below_drewN hbw' _) hown'.out hg2 hsz'⟩
              case measure => simp [intOf] <;> omega
          · obtain rfl : f = 0 := by omega
            have b2 : decide ((i : Int) + (q : Int) ≤ (s.size : Int)) = false := decide_eq_false (by omega)
            have hnx := row_end hacc'.out
            clear hq
            go_wp2
            go_roundw
            case rel => exact ⟨i + 1, acc', v', by omega, by go_num, rfl, hnx, hown', hbw'⟩
            case measure => simp [intOf] <;> omega
      · obtain rfl : i = s.size := by omega
        have hz : s.size - s.size = 0 := by omega
        rw [hz] at hacc
        have hfin := rows_end hacc.out
        have hal := Nat.le_trans (acc_le hacc.out) hRl
        go_wp2_with fail
        refine (sortS_c v _ _ _ hown.out (by omega)).mono ?_
        rintro e w2 ⟨rfl, ho1, hg1⟩
        have HO1 := Lib.hid ho1
        have hb1 := below_app hbw hown.out hg1 hsz
        have HB1 := Lib.hid hb1
        have hs2 := hb1.size
        have hl1 := sortS_len acc
        clear ho1 hg1 hb1
        go_wp2_with fail
        refine (compactS_c v _ _ _ HO1.out (by omega)).mono ?_
        rintro e w3 ⟨v', rfl, ho2, hg2, -⟩
        have HO2 := Lib.hid ho2
        have HB2 := Lib.hid (below_app HB1.out HO1.out hg2 hs2)
        clear ho2 hg2
        go_wp2_with fail
        go_ret
        exact ⟨_, rfl, by rw [hr.out, ← hfin.out]; exact HO2.out, HB2.out⟩
set_option maxRecDepth 20000 in
set_option maxHeartbeats 2000000 in
theorem squaresIn_s (s : ByteArray) (w : World) (hs : s.size ≤ 1073741000) :
    Calls Try.prog 37 #[.string s] w (RetS (sqW s) w) := by
  have h1 := fun W => Lib.hid (wordOk_c s W (by unfold maxLen; omega))
  cases hok : shortB s
  · have hr : Hid (sqW s = []) := by simp [sqW, hok, Hid]
    cases hw : wordL s.data.toList
    · rw [hw] at h1
      clear hok
      go_enter Try.func37, Try.ntmps37
      go_wp2_with fail
      refine (h1 _).out.mono ?_
      rintro e w' ⟨rfl, rfl⟩
      go_wp2_with fail
      go_ret
      exact retS_nil _ _ _ hr.out (Below.refl _ _)
    · have h60 : decide ((60 : Int) < (s.size : Int)) = true := by
        unfold shortB at hok; rw [hw, Bool.true_and, decide_eq_false_iff_not] at hok; exact decide_eq_true (by omega)
      rw [hw] at h1
      clear hok
      go_enter Try.func37, Try.ntmps37
      go_wp2_with fail
      refine (h1 _).out.mono ?_
      rintro e w' ⟨rfl, rfl⟩
      go_wp2_with fail
      go_ret
      exact retS_nil _ _ _ hr.out (Below.refl _ _)
  · obtain ⟨hw, hsz60⟩ := shortB_iff.1 hok
    have HA := Lib.hid (asciiT hw)
    have h60 : decide ((60 : Int) < (s.size : Int)) = false := decide_eq_false (by omega)
    obtain ⟨R, hR⟩ : ∃ R, R = sqRows s := ⟨_, rfl⟩
    have hr : Hid (sqW s = insAll [] R) := by unfold Hid sqW; rw [if_pos hok, hR]; exact uniqS_ins _
    have hRl : R.length ≤ 3600 := by have := sqRows_len hsz60; rw [hR]; omega
    have hst : Hid ([] ++ rowsP (sqP s) (fun i n => s.extract i (i + 2 * n)) (fun i => (s.size - i) / 2) (s.size - 0) 0 = R) := by rw [hR]; rfl
    have hst0 : Hid (OwnS (w.alloc (.cells #[] 9)) w.heap.size (.slice (some ⟨w.heap.size, 0, none⟩) 0 0) []) := ownS_empty w (Nat.le_refl _)
    have hit0 : Hid (((w.alloc (.cells #[] 9)).iter s 0).heap[w.heap.size + 1]? = some (.stringIter s 0)) := by
      have := World.iter_heap (w.alloc (.cells #[] 9)) s 0
      simpa [Hid] using this
    have hst1 : Hid (OwnS ((w.alloc (.cells #[] 9)).iter s 0) w.heap.size (.slice (some ⟨w.heap.size, 0, none⟩) 0 0) []) := World.ownsRow.alloc hst0.out _
    rw [hw] at h1
    clear hok hR hw
    go_enter Try.func37, Try.ntmps37
    go_wp2_with fail
    refine (h1 _).out.mono ?_
    rintro e w' ⟨rfl, rfl⟩
    go_wp2_with fail
    go_loopw [3] (fun o wr => ∃ (i g c : Nat) (acc : List ByteArray), i ≤ s.size ∧ o = .slice (some ⟨g, 0, none⟩) (insAll [] acc).length c ∧ Hid (acc ++ rowsP (sqP s) (fun i n => s.extract i (i + 2 * n)) (fun i => (s.size - i) / 2) (s.size - i) i = R) ∧ Hid (OwnS wr w.heap.size (.slice (some ⟨g, 0, none⟩) (insAll [] acc).length c) (insAll [] acc)) ∧ Hid (wr.heap[w.heap.size + 1]? = some (.stringIter s i)) ∧ Below w.heap.size w wr) (fun _ wr => s.size - wr.iterPos (w.heap.size + 1))
    case atStart => exact ⟨0, w.heap.size, 0, [], by omega, rfl, hst, hst1, hit0, ((Below.refl _ _).alloc (Nat.le_refl _) _).alloc (by simp) _⟩
    case round =>
      obtain ⟨i, g, c, acc, hi, rfl, hacc, hown, hit, hbw⟩ := hrel
      have hsz := hbw.size
      by_cases hlt : i < s.size
      · have hnx0 : ∀ ty, (Instr.next (.pointer (some ⟨w.heap.size + 1, 0, none⟩)) true ty).run Try.prog wr = .ok (.tuple #[.bool true, .int .i64 i, .int .i32 (s[i]'hlt).toNat]) (wr.iterAt (w.heap.size + 1) s (i + 1)) := fun ty => Lib.run_next_ascii_at (P := Try.prog) wr (w.heap.size + 1) s i ty hit.out hlt (HA.out i hlt)
        have hit2 := Lib.hid (Lib.iterAt_heap wr (w.heap.size + 1) s i (i + 1) hit.out)
        have hbw2 := Lib.below_iterAt hbw (Nat.le_succ _) s (i + 1)
        have hown2 := Lib.hid (ownS_iterAt hown.out hit.out (i + 1))
        have hpos := Lib.hid (iterPosT hit.out)
        have hin := rows_in hacc.out (by omega)
        have hnx1 : s.size - i - 1 = s.size - (i + 1) := by omega
        rw [hnx1] at hin
        obtain ⟨W, hW⟩ : ∃ W, W = wr.iterAt (w.heap.size + 1) s (i + 1) := ⟨_, rfl⟩
        rw [← hW] at hnx0 hit2 hbw2 hown2
        clear hW hown hbw
        go_wp2
        go_loopw [3, 5] (fun o x wi => ∃ (n f g' c' : Nat) (acc' : List ByteArray), 1 ≤ n ∧ n + f = (s.size - i) / 2 + 1 ∧ x = .int .i64 (n : Int) ∧ o = .slice (some ⟨g', 0, none⟩) (insAll [] acc').length c' ∧ Hid (acc' ++ (rowP (sqP s) (fun i n => s.extract i (i + 2 * n)) i f n ++ rowsP (sqP s) (fun i n => s.extract i (i + 2 * n)) (fun i => (s.size - i) / 2) (s.size - (i + 1)) (i + 1)) = R) ∧ Hid (OwnS wi w.heap.size (.slice (some ⟨g', 0, none⟩) (insAll [] acc').length c') (insAll [] acc')) ∧ Hid (wi.heap[w.heap.size + 1]? = some (.stringIter s (i + 1))) ∧ Below w.heap.size w wi) (fun _ x _ => s.size + 1 - (intOf x).toNat)
        case atStart => exact ⟨1, (s.size - i) / 2, g, c, acc, by omega, by omega, rfl, rfl, hin, hown2, hit2, hbw2⟩
        case round =>
          obtain ⟨n, f, g', c', acc', hn1, hnf, rfl, rfl, hacc', hown', hit', hbw'⟩ := hrel
          have hsz' := hbw'.size
          have hal := Nat.le_trans (acc_le hacc'.out) hRl
          have hil := insAll_len [] acc'
          have hil2 : (insAll [] acc').length ≤ 3601 := by simp only [List.length_nil] at hil; omega
          obtain ⟨q, hq⟩ : ∃ q : Nat, q = 2 * n := ⟨_, rfl⟩
          have hqi : 2 * (n : Int) = (q : Int) := by omega
          have HQ := Lib.hid hq
          have hqb : q ≤ 2 * s.size + 2 := by omega
          have b0 : 0 ≤ (i : Int) + (q : Int) := by omega
          have b1 : (i : Int) ≤ (i : Int) + (q : Int) := by omega
          have e0 : IntKind.i64.wrap (q : Int) = (q : Int) := IntWalk.i64_in _ (by omega)
          have e1 : IntKind.i64.wrap ((i : Int) + (q : Int)) = (i : Int) + (q : Int) := IntWalk.i64_in _ (by omega)
          have e2 : ((i : Int) + (q : Int)).toNat = i + q := by omega
          have hnb : n ≤ s.size + 1 := by omega
          by_cases hle : i + q ≤ s.size
          · have b2 : (i : Int) + (q : Int) ≤ (s.size : Int) := by omega
            have hf0 : 0 < f := by omega
            have c0 : 0 ≤ (i : Int) + (n : Int) := by omega
            have c1 : (i : Int) ≤ (i : Int) + (n : Int) := by omega
            have c2 : (i : Int) + (n : Int) ≤ (s.size : Int) := by omega
            have c3 : (i : Int) + (n : Int) ≤ (i : Int) + (q : Int) := by omega
            have c4 : IntKind.i64.wrap ((i : Int) + (n : Int)) = (i : Int) + (n : Int) := IntWalk.i64_in _ (by omega)
            have c5 : ((i : Int) + (n : Int)).toNat = i + n := by omega
            have hxs := ext_size s i (i + q) hle (by omega)
            have hE : ((s.extract i (i + n)).toList == (s.extract (i + n) (i + q)).toList) = sqP s i n := by
              have := sq_eq s i n (by omega)
              rw [show i + n + n = i + q by omega] at this; exact this
            cases hp : sqP s i n
            · have hnx := row_miss hacc'.out hf0 hp
              rw [hp] at hE
              clear hp hq
              go_wp2
              go_quiet (fail)
              go_wp2
              go_roundw
              case rel => exact ⟨n + 1, f - 1, g', c', acc', by omega, by omega, by go_num, rfl, hnx, hown', hit', below_drewN hbw' _⟩
              case measure => simp [intOf] <;> omega
            · have hnx := row_hit hacc'.out hf0 hp
              have hnx2 : Hid ((acc' ++ [s.extract i (i + q)]) ++ (rowP (sqP s) (fun i n => s.extract i (i + 2 * n)) i (f - 1) (n + 1) ++ rowsP (sqP s) (fun i n => s.extract i (i + 2 * n)) (fun i => (s.size - i) / 2) (s.size - (i + 1)) (i + 1)) = R) := by rw [hq]; exact hnx
              have hsn := Lib.hid (insAll_snoc [] acc' (s.extract i (i + q)))
              rw [hp] at hE
              clear hp hq hnx
              have hinsD := fun d => Lib.hid (l05Insert_c g' c' w.heap.size (insAll [] acc') (s.extract i (i + q)) (wr.drewN d) hown'.out (by omega) hsz')
              rw [← hsn.out] at hinsD
              go_wp2
              go_quiet (fail)
              go_wp2_with fail
              refine (hinsD _).out.mono ?_
              rintro e w2 ⟨g2, c2, rfl, ho2, hb2⟩
              have HO2 := Lib.hid ho2
              have HB2 := Lib.hid ((below_drewN hbw' _).trans (hb2.mono hsz'))
              have HI2 := Lib.hid (heap_keptT hb2 hit'.out)
              clear ho2
              go_wp2_with fail
              go_roundw
              case rel => exact ⟨n + 1, f - 1, g2, c2, acc' ++ [s.extract i (i + q)], by omega, by omega, by go_num, rfl, hnx2, HO2, HI2, HB2.out⟩
              case measure => simp [intOf] <;> omega
          · obtain rfl : f = 0 := by omega
            have b2 : decide ((i : Int) + (q : Int) ≤ (s.size : Int)) = false := decide_eq_false (by omega)
            have hnx := row_end hacc'.out
            clear hq
            go_wp2
            go_roundw
            case rel => exact ⟨i + 1, g', c', acc', by omega, rfl, hnx, hown', hit', hbw'⟩
            case measure => rw [iterPosT hit'.out, hpos.out]; omega
      · obtain rfl : i = s.size := by omega
        have hz : s.size - s.size = 0 := by omega
        rw [hz] at hacc
        have hfin := rows_end hacc.out
        have hF : Hid (OwnS wr w.heap.size (.slice (some ⟨g, 0, none⟩) (insAll [] acc).length c) (sqW s)) := by rw [hr.out, ← hfin.out]; exact hown.out
        have hnx0 : ∀ ty, (Instr.next (.pointer (some ⟨w.heap.size + 1, 0, none⟩)) true ty).run Try.prog wr = .ok (.tuple #[.bool false]) wr := fun ty => Lib.run_next_end_at (P := Try.prog) wr (w.heap.size + 1) s s.size ty hit.out (by omega)
        go_wp2
        go_ret
        exact ⟨_, rfl, hF.out, hbw⟩
end Go.Proofs.Yticbdpkmpnechaa
