/- Contracts of LyndonParts in the program and in the reference. Conditions: strings of at most 2^30 bytes. -/
import Derived.Test.YthbdonlhhpmolaaF1
import Derived.Test.YthbdonlhhpmolaaM2
namespace Go.Proofs.Ythbdonlhhpmolaa
open Go.RowKit
set_option linter.unusedVariables false

theorem lon_yes {s : ByteArray} (hw : wordL s.data.toList = true) {k m : Nat} (h : k + m ≤ s.size) (h1 : 1 ≤ m) (hl : lyW (s.extract k (k + m)) = true) : lonG s k m = m := by
  obtain ⟨g, rfl⟩ : ∃ g, m = g + 1 := ⟨m - 1, by omega⟩
  rw [lonG, if_pos (cB_true ((ly_ext hw h h1).1 hl))]
theorem lon_no {s : ByteArray} (hw : wordL s.data.toList = true) {k m : Nat} (h : k + m ≤ s.size) (h1 : 1 ≤ m) (hl : lyW (s.extract k (k + m)) = false) : lonG s k m = lonG s k (m - 1) := by
  obtain ⟨g, rfl⟩ : ∃ g, m = g + 1 := ⟨m - 1, by omega⟩
  rw [lonG, if_neg (by rw [cB_false (fun h' => by rw [(ly_ext hw h h1).2 h'] at hl; cases hl)]; decide)]; rfl

set_option maxHeartbeats 2000000 in
theorem lyndonParts_s (s : ByteArray) (w : World) (hs : s.size ≤ 1073741000) :
    Calls Try.prog 23 #[.string s] w (RetS (partsW s) w) := by
  cases hw : wordL s.data.toList
  · have hr : Hid (partsW s = []) := by simp [partsW, hw, Hid]
    go_enter Try.func23, Try.ntmps23
    go_wp2_with (go_at_call 62; refine (wordOk_c _ _ (by unfold maxLen; omega)).mono ?_; rintro e w' ⟨rfl, rfl⟩)
    go_ret
    exact retS_nil _ _ _ hr.out (Below.refl _ _)
  · obtain ⟨R, hR⟩ : ∃ R, R = partsW s := ⟨_, rfl⟩
    have hr : Hid (R = partsW s) := hR
    have hst : Hid ([] ++ partsG s (s.size + 1) 0 = R) := by unfold Hid; rw [hR, partsW, if_pos hw]; rfl
    have hst0 : Hid (OwnS (w.alloc (.cells #[] 9)) w.heap.size (.slice (some ⟨w.heap.size, 0, none⟩) 0 0) []) := ownS_empty w (Nat.le_refl _)
    have hsz := wordL_size hw
    have h1 := fun W => Lib.hid (wordOk_c s W (by unfold maxLen; omega))
    rw [hw] at h1
    have HW := Lib.hid hw
    clear hR hw
    go_enter Try.func23, Try.ntmps23
    go_wp2_with fail
    refine (h1 _).out.mono ?_
    rintro e w' ⟨rfl, rfl⟩
    go_wp2_with fail
    go_loopw [3, 4] (fun o i wr => ∃ (k f : Nat) (acc : List ByteArray) (v : Value), k ≤ s.size ∧ s.size < f + k ∧ acc.length ≤ k ∧ i = .int .i64 k ∧ v = o ∧ Hid (acc ++ partsG s f k = R) ∧ Hid (OwnS wr w.heap.size v acc) ∧ Below w.heap.size w wr) (fun _ i _ => s.size - (intOf i).toNat)
    case atStart => exact ⟨0, s.size + 1, [], _, by omega, by omega, by simp, rfl, rfl, hst, hst0, (Below.refl _ _).alloc (Nat.le_refl _) _⟩
    case round =>
      obtain ⟨k, f, acc, v, hk, hf, hacc, rfl, rfl, hR, hown, hbw⟩ := hrel
      by_cases hlt : k < s.size
      · obtain ⟨hL1, hL2⟩ := lonO_pos hlt
        have hnx := Lib.hid (parts_step hR.out hlt hf)
        obtain ⟨L, hL⟩ : ∃ L, L = lonO s k := ⟨_, rfl⟩
        rw [← hL] at hL1 hL2 hnx
        have hLs : Hid (lonG s k (s.size - k) = L) := hL.symm
        clear hL
        obtain ⟨m0, hm0⟩ : ∃ m0 : Nat, m0 = s.size - k := ⟨_, rfl⟩
        have hm0i : (s.size : Int) - (k : Int) = (m0 : Int) := by omega
        have hm0w : IntKind.i64.wrap (m0 : Int) = (m0 : Int) := IntWalk.i64_in _ (by omega)
        have hm0b : k + m0 = s.size := by omega
        rw [← hm0] at hLs
        clear hm0
        go_wp2
        go_loopw [5] (fun n wi => ∃ m : Nat, L ≤ m ∧ k + m ≤ s.size ∧ n = .int .i64 m ∧ Hid (lonG s k m = L) ∧ Hid (OwnS wi w.heap.size v acc) ∧ Below w.heap.size w wi) (fun n _ => (intOf n).toNat)
        case atStart => exact ⟨m0, by omega, by omega, rfl, hLs, hown, hbw⟩
        case round =>
          obtain ⟨m, hLm, hkm, rfl, hlg, hown1, hbw1⟩ := hrel
          have hsz1 := hbw1.size
          have b0 : (k : Int) + (m : Int) ≤ (s.size : Int) := by omega
          have b1 : (k : Int) ≤ (k : Int) + (m : Int) := by omega
          have b2 : 0 ≤ (k : Int) + (m : Int) := by omega
          have b3 : ((k : Int) + (m : Int)).toNat = k + m := by omega
          have b4 : IntKind.i64.wrap ((k : Int) + (m : Int)) = (k : Int) + (m : Int) := IntWalk.i64_in _ (by omega)
          have hxs : (s.extract k (k + m)).size = m := by rw [ext_size s k (k + m) hkm (by omega)]; omega
          have hly := fun W => Lib.hid (isLyndon_s (s.extract k (k + m)) W (by omega))
          cases hq : lyW (s.extract k (k + m))
          · have hn := lon_no HW.out hkm (by omega) hq
            have hnx1 := Lib.hid (hn.symm.trans hlg.out)
            have hLm1 : L ≤ m - 1 := by rw [← hnx1.out]; exact lonG_le _ _ _
            rw [hq] at hly
            clear hq hn hxs
            go_wp2_with fail
            refine (hly _).out.mono ?_
            rintro e w1 ⟨rfl, hb1⟩
            have ho1 := Lib.hid (own_below hown1.out hb1)
            have hb2 := Lib.hid (hbw1.trans (hb1.mono hsz1))
            have hm1 : 1 ≤ m := by omega
            go_wp2_with fail
            go_roundw
            case rel => exact ⟨m - 1, hLm1, by omega, by go_num, hnx1, ho1, hb2.out⟩
            case measure => simp [intOf] <;> omega
          · have hn := lon_yes HW.out hkm (by omega) hq
            have hmL : m = L := hn.symm.trans hlg.out
            subst hmL
            rw [hq] at hly
            clear hq hn hxs
            go_wp2_with fail
            refine (hly _).out.mono ?_
            rintro e w1 ⟨rfl, hb1⟩
            have ho1 := Lib.hid (own_below hown1.out hb1)
            have hb2 := Lib.hid (hbw1.trans (hb1.mono hsz1))
            have hsz2 := hb2.out.size
            go_wp2_with (at_builtin; refine appS rfl _ _ rfl w.heap.size _ acc rfl (by exact ho1.out) _ rfl (by omega) (by exact hsz2) ?_; intro v' w' hown' hg')
            go_roundw
            case rel => exact ⟨k + m, f - 1, acc ++ [s.extract k (k + m)], _, by omega, by omega, by simp <;> omega, by go_num, rfl, hnx, hown', below_app hb2.out ho1.out hg' hsz2⟩
            case measure => simp [intOf] <;> omega
      · have hfin : Hid (acc = partsW s) := by unfold Hid; rw [← hr.out]; exact parts_end hR.out (by omega)
        go_wp2
        go_ret
        exact retS_mk hown.out hfin.out hbw
end Go.Proofs.Ythbdonlhhpmolaa
