/- Contracts of FirstUnbalance in the program and in the reference, and the walk of its law. Conditions: strings of at most 2^20 bytes; the library's variable MaxLen holds a number. -/
import Derived.Test.YticbdpkmpnechaaU3
import Derived.Test.YticbdpkmpnechaaU1
import Derived.Test.YticbdpkmpnechaaE1
import Derived.Test.YticbdpkmpnechaaE3
import Derived.Test.YticbdpkmpnechaaShelf
import Derived.Deep.CutRange
namespace Go.Proofs.Yticbdpkmpnechaa
open Go.RowKit
set_option linter.unusedVariables false

theorem star_none_e : ((star none).toList == (⟨#[]⟩ : ByteArray).toList) = true := by show ((⟨#[]⟩ : ByteArray).toList == (⟨#[]⟩ : ByteArray).toList) = true; simp
theorem star_some_e (u : ByteArray) : ((star (some u)).toList == (⟨#[]⟩ : ByteArray).toList) = false := by
  show ((wrapB 42 u).toList == _) = false
  rw [empty_beq, isEmptyT, wrapB_size]; exact decide_eq_false (by omega)
theorem foldU_step {s x : ByteArray} {n m f i : Nat} {r R2 : Option ByteArray} (hx : x = s.extract i (i + m)) (hf : 0 < f) (h : foldU (fuP s n) (uOf n) r (facGo s m f i) = R2) : Hid (foldU (fuP s n) (uOf n) (stepU (fuP s n) (uOf n) r x) (facGo s m (f - 1) (i + 1)) = R2) := by
  obtain ⟨f', rfl⟩ : ∃ f', f = f' + 1 := ⟨f - 1, by omega⟩
  subst hx
  exact h

theorem fu_nums {i n z : Nat} (h : i + n + 2 ≤ z) (hz : z ≤ 400) :
    (i : Int) < (z : Int) ∧ (i : Int) + (n : Int) + 1 < (z : Int) ∧ (i : Int) + 1 ≤ (i : Int) + 1 + (n : Int) ∧ (i : Int) + 1 + (n : Int) ≤ (z : Int) ∧ 0 ≤ (i : Int) + 1 ∧ 0 ≤ (i : Int) + (n : Int) + 1 ∧ 0 ≤ (i : Int) + 1 + (n : Int) ∧
    IntKind.i64.wrap ((i : Int) + 1) = (i : Int) + 1 ∧ ((i : Int) + 1).toNat = i + 1 ∧ IntKind.i64.wrap ((i : Int) + 1 + (n : Int)) = (i : Int) + 1 + (n : Int) ∧ ((i : Int) + 1 + (n : Int)).toNat = i + 1 + n ∧ IntKind.i64.wrap ((i : Int) + (n : Int) + 1) = (i : Int) + (n : Int) + 1 ∧ ((i : Int) + (n : Int) + 1).toNat = i + n + 1 :=
  ⟨by omega, by omega, by omega, by omega, by omega, by omega, by omega, IntWalk.i64_in _ (by omega), by omega, IntWalk.i64_in _ (by omega), by omega, IntWalk.i64_in _ (by omega), by omega⟩

set_option maxRecDepth 20000 in
set_option maxHeartbeats 20000000 in
theorem firstUnbalance_s (s : ByteArray) (w : World) (hs : s.size ≤ 1048576) :
    Calls Try.prog 41 #[.string s] w fun e w' => e = .returned (.string (fuW s)) ∧ Below w.heap.size w w' := by
  have h1 := Lib.hid (isBinary_s s w (by omega))
  cases hok : binB s
  · have hr : Hid (fuW s = ⟨#[]⟩) := by simp [fuW, hok, Hid]
    rw [hok] at h1
    go_enter Try.func41, Try.ntmps41
    go_wp2_with fail
    refine h1.out.mono ?_
    rintro e w' ⟨rfl, rfl⟩
    go_wp2_with fail
    go_ret
    exact ⟨ret_str hr.out.symm, Below.refl _ _⟩
  · have hw : wordL s.data.toList = true := by unfold binB at hok; rw [Bool.and_eq_true] at hok; exact hok.1
    have hs4 := wordL_size hw
    obtain ⟨R, hR⟩ : ∃ R, R = fuGo s (s.size - 1) 0 := ⟨_, rfl⟩
    have hr : Hid (fuW s = star R) := by unfold Hid fuW; rw [if_pos hok, hR]
    have hst : Hid (fuGo s (s.size - 1) 0 = R) := hR.symm
    rw [hok] at h1
    clear hok hw hR
    go_enter Try.func41, Try.ntmps41
    go_wp2_with fail
    refine h1.out.mono ?_
    rintro e w0 ⟨rfl, rfl⟩
    go_wp2_with fail
    go_loopw [3] (fun z wr => ∃ n f : Nat, z = .int .i64 n ∧ n + f = s.size - 1 ∧ Hid (fuGo s f n = R) ∧ Below w.heap.size w wr) (fun z _ => s.size - (intOf z).toNat)
    case atStart => exact ⟨0, s.size - 1, rfl, by omega, hst, Below.refl _ _⟩
    case round =>
      obtain ⟨n, f, rfl, hnf, hg, hbw⟩ := hrel
      have hsz := hbw.size
      obtain ⟨m, hmn⟩ : ∃ m : Nat, m = n + 2 := ⟨_, rfl⟩
      have hmi : (n : Int) + 2 = (m : Int) := by omega
      have HMN := Lib.hid hmn
      clear hmn
      have em : IntKind.i64.wrap (m : Int) = (m : Int) := IntWalk.i64_in _ (by omega)
      have en : IntKind.i64.wrap ((n : Int) + 1) = (n : Int) + 1 := IntWalk.i64_in _ (by omega)
      by_cases hle : m ≤ s.size
      · have hf0 : 0 < f := by omega
        have hmi2 : (m : Int) ≤ (s.size : Int) := by omega
        have hst2 : Hid (foldU (fuP s n) (uOf n) none (facGo s m (s.size + 1 - m) 0) = fuN s n) := by have := fuN_fold s n; rw [← HMN.out] at this; exact this
        go_wp2_with fail
        go_loopw [4, 5] (fun y z wi => ∃ (i f2 : Nat) (r : Option ByteArray), y = .string (star r) ∧ z = .int .i64 i ∧ i + f2 = s.size + 1 - m ∧ Hid (∀ u, r = some u → u.size = n) ∧ Hid (foldU (fuP s n) (uOf n) r (facGo s m f2 i) = fuN s n) ∧ Below w.heap.size w wi) (fun _ z _ => s.size + 1 - (intOf z).toNat)
        case atStart => exact ⟨0, s.size + 1 - m, none, rfl, rfl, by omega, (fun u hu => by cases hu), hst2, hbw⟩
        case round =>
          obtain ⟨i, f2, r, rfl, rfl, hif, hrn, hall, hbw2⟩ := hrel
          have a1 : IntKind.i64.wrap ((i : Int) + (n : Int)) = (i : Int) + (n : Int) := IntWalk.i64_in _ (by omega)
          have a2 : IntKind.i64.wrap ((i : Int) + (n : Int) + 2) = (i : Int) + (n : Int) + 2 := IntWalk.i64_in _ (by omega)
          by_cases hl2 : i + n + 2 ≤ s.size
          · have hf2 : 0 < f2 := by omega
            have hif2 : i + 1 + (f2 - 1) = s.size + 1 - m := by omega
            have hms : s.size + 1 - (i + 1) < s.size + 1 - i := by omega
            have hl400 : i + n + 2 ≤ 400 := by omega
            have HIF := Lib.hid hif2
            have HMS := Lib.hid hms
            have HNF := Lib.hid hnf
            clear hif hif2 hms hnf
            have b1 : (i : Int) + (n : Int) + 2 ≤ (s.size : Int) := by omega
            obtain ⟨x, hx⟩ : ∃ x, x = s.extract i (i + m) := ⟨_, rfl⟩
            have hstp := foldU_step hx hf2 hall.out
            have q0 : i < s.size := by omega
            have q1 : i + n + 1 < s.size := by omega
            obtain ⟨i1, i2, i3, i4, i5, i6, i7, e1, e2, e3, e4, e5, e6⟩ := fu_nums hl2 hs4
            have hue : uOf n x = s.extract (i + 1) (i + 1 + n) := by rw [hx, HMN.out]; exact uOf_ext s i n (by omega)
            have hue0 : fuA x 0 = fuA s i := by rw [hx, HMN.out]; exact fuA_ext s i n 0 (by omega) (by omega)
            have hue1 : fuA x (n + 1) = fuA s (i + n + 1) := by rw [hx, HMN.out]; exact fuA_ext s i n (n + 1) (by omega) (by omega)
            have zu : (s.extract (i + 1) (i + 1 + n)).size = n := by rw [ext_size s (i + 1) (i + 1 + n) (by omega) (by omega)]; omega
            obtain ⟨u, hu⟩ : ∃ u, u = s.extract (i + 1) (i + 1 + n) := ⟨_, rfl⟩
            have hPe : Hid (fuP s n x = (fuA s i && (fuA s (i + n + 1) && (isPal u && Lib.contains s.data.toList ((⟨#[98]⟩ : ByteArray) ++ u ++ (⟨#[98]⟩ : ByteArray)).data.toList)))) := by unfold Hid fuP wrapB; rw [hue, hue0, hue1, hu]
            have hU : Hid (uOf n x = u) := by rw [hu]; exact hue
            have huu : s.extract (i + 1) (i + 1 + n) = u := hu.symm
            rw [huu] at zu
            clear hue hue0 hue1 hx hu
            have z0 : (⟨#[98]⟩ : ByteArray).size = 1 := rfl
            have z1 : ((⟨#[98]⟩ : ByteArray) ++ u).size = n + 1 := by rw [ByteArray.size_append, zu, z0]; omega
            have z2 : ((⟨#[98]⟩ : ByteArray) ++ u ++ (⟨#[98]⟩ : ByteArray)).size = n + 2 := by rw [ByteArray.size_append, z1, z0]
            have y0 : (⟨#[42]⟩ : ByteArray).size = 1 := rfl
            have y1 : ((⟨#[42]⟩ : ByteArray) ++ u).size = n + 1 := by rw [ByteArray.size_append, zu, y0]; omega
            have hx0 : (((s[i]'q0).toNat : Int) != 97) = !(fuA s i) := by rw [← fuA_eq s i q0]; rfl
            have hx1 : (((s[i + n + 1]'q1).toNat : Int) != 97) = !(fuA s (i + n + 1)) := by rw [← fuA_eq s (i + n + 1) q1]; rfl
            have hT := fun W => Lib.hid (l08Is_c u W (by omega))
            have hCt := fun W => Lib.hid (l02Has_c s ((⟨#[98]⟩ : ByteArray) ++ u ++ (⟨#[98]⟩ : ByteArray)) W (by omega) (by omega))
            have hltF := Lib.hid (fun v : ByteArray => (show Op.bytesLess u.toList v.toList = ltT u v by unfold ltT; rw [bytesLess_eq, Lib.toList_data, Lib.toList_data]))
            have hsn : Hid (∀ v, some u = some v → v.size = n) := fun v hv => by rw [← Option.some.inj hv]; exact zu
            have hPe2 : Hid (fuP s n x = true → uOf n x = u) := fun _ => hU.out
            obtain ⟨P, hP⟩ : ∃ P, P = fuP s n x := ⟨_, rfl⟩
            have HP := Lib.hid hP
            rw [← hP] at hPe
            clear hP hPe2
            go_upto_region 11 with fail
            go_cut [59] from 34 to 59 (fun s59 wx => s59 = .bool (!P) ∧ Below w.heap.size w wx)
            case first =>
              cases p0 : fuA s i
              · rw [p0] at hx0 hPe
                rw [Bool.not_false] at hx0
                have hP2 : Hid ((!P) = true) := by unfold Hid; rw [hPe.out]; rfl
                clear p0 hT hCt
                go_wp2_with fail
                go_meet
                case rel => exact ⟨by rw [hP2.out], hbw2⟩
              · rw [p0] at hx0 hPe
                rw [Bool.not_true] at hx0
                cases p1 : fuA s (i + n + 1)
                · rw [p1] at hx1 hPe
                  rw [Bool.not_false] at hx1
                  have hP2 : Hid ((!P) = true) := by unfold Hid; rw [hPe.out]; rfl
                  clear p0 p1 hT hCt
                  go_wp2_with fail
                  go_meet
                  case rel => exact ⟨by rw [hP2.out], hbw2⟩
                · rw [p1] at hx1 hPe
                  rw [Bool.not_true] at hx1
                  cases p2 : isPal u
                  · rw [p2] at hT hPe
                    have hP2 : Hid ((!P) = true) := by unfold Hid; rw [hPe.out]; rfl
                    clear p0 p1 p2 hCt
                    go_wp2_with fail
                    refine (hT _).out.mono ?_
                    rintro e w2 ⟨rfl, hb2⟩
                    go_wp2_with fail
                    go_meet
                    case rel => exact ⟨by rw [hP2.out], hbw2.trans (hb2.mono hbw2.size)⟩
                  · rw [p2] at hT hPe
                    cases p3 : Lib.contains s.data.toList ((⟨#[98]⟩ : ByteArray) ++ u ++ (⟨#[98]⟩ : ByteArray)).data.toList
                    · rw [p3] at hPe hCt
                      have hP2 : Hid ((!P) = true) := by unfold Hid; rw [hPe.out]; rfl
                      clear p0 p1 p2 p3
                      go_wp2_with fail
                      refine (hT _).out.mono ?_
                      rintro e w2 ⟨rfl, hb2⟩
                      go_wp2_with fail
                      refine (hCt _).out.mono ?_
                      rintro e w3 ⟨rfl, rfl⟩
                      go_wp2_with fail
                      go_meet
                      case rel => exact ⟨by rw [hP2.out], hbw2.trans (hb2.mono hbw2.size)⟩
                    · rw [p3] at hPe hCt
                      have hP2 : Hid ((!P) = false) := by unfold Hid; rw [hPe.out]; rfl
                      clear p0 p1 p2 p3
                      go_wp2_with fail
                      refine (hT _).out.mono ?_
                      rintro e w2 ⟨rfl, hb2⟩
                      go_wp2_with fail
                      refine (hCt _).out.mono ?_
                      rintro e w3 ⟨rfl, rfl⟩
                      go_wp2_with fail
                      go_meet
                      case rel => exact ⟨by rw [hP2.out], hbw2.trans (hb2.mono hbw2.size)⟩
            case rest =>
              obtain ⟨rfl, hbc⟩ := hcut
              have HWB := Lib.hid hbc
              clear hT hCt hbc hx0 hx1 i1 i2 i3 i4 i5 i6 i7 e1 e3 e4 e5 e6 z0 z1 z2 y0 y1
              cases P
              · have hnx : Hid (foldU (fuP s n) (uOf n) r (facGo s m (f2 - 1) (i + 1)) = fuN s n) := by
                  have := hstp.out
                  rw [show stepU (fuP s n) (uOf n) r x = r by unfold stepU; rw [if_neg (by rw [← HP.out]; decide)]] at this; exact this
                rw [Bool.not_false]
                go_wp2_with fail
                go_roundw
                case rel => exact ⟨i + 1, f2 - 1, r, rfl, by go_num, HIF.out, hrn, hnx, HWB.out⟩
                case measure => exact HMS.out
              · rw [Bool.not_true]
                go_upto_region 12 with fail
                go_cut [4, 69] from 17 to 72 (fun s4 s69 wx => s4 = .string (star r) ∧ wx = wc ∧ ∃ c : Bool, s69 = .bool c ∧ Hid (foldU (fuP s n) (uOf n) (if c = true then some u else r) (facGo s m (f2 - 1) (i + 1)) = fuN s n))
                case first =>
                  cases r with
                  | none =>
                    have hnx : Hid (foldU (fuP s n) (uOf n) (some u) (facGo s m (f2 - 1) (i + 1)) = fuN s n) := by
                      have := hstp.out
                      rw [show stepU (fuP s n) (uOf n) none x = some u by unfold stepU; rw [if_pos HP.out.symm, hU.out]] at this; exact this
                    have hbe := star_none_e
                    obtain ⟨b, hb⟩ : ∃ b, b = star none := ⟨_, rfl⟩
                    rw [← hb] at hbe ⊢
                    have hbe2 : b.toList.isEmpty = true := by rw [hb, isEmptyT]; rfl
                    have HBS := Lib.hid hb
                    clear hb
                    go_wp2_with fail
                    go_meet
                    case rel => exact ⟨by rw [HBS.out], rfl, true, rfl, hnx⟩
                  | some v =>
                    have hvn := hrn.out v rfl
                    have hbe := star_some_e v
                    have hmid : (star (some v)).extract 1 (1 + n) = v := by rw [← hvn]; exact wrapB_mid 42 v
                    have hbz : (star (some v)).size = n + 2 := by rw [← hvn]; exact wrapB_size 42 v
                    obtain ⟨b, hb⟩ : ∃ b, b = star (some v) := ⟨_, rfl⟩
                    rw [← hb] at hbe hmid hbz ⊢
                    have hbe2 : b.toList.isEmpty = false := by rw [← empty_beq]; exact hbe
                    have HBS := Lib.hid hb
                    clear hb
                    have j1 : (1 : Int) ≤ 1 + (n : Int) := by omega
                    have j2 : (1 : Int) + (n : Int) ≤ (b.size : Int) := by omega
                    have j3 : 0 ≤ (1 : Int) + (n : Int) := by omega
                    have j4 : IntKind.i64.wrap (1 + (n : Int)) = 1 + (n : Int) := IntWalk.i64_in _ (by omega)
                    have j5 : (1 + (n : Int)).toNat = 1 + n := by omega
                    have hlt := hltF.out v
                    cases p5 : ltT u v
                    · rw [p5] at hlt
                      have hnx : Hid (foldU (fuP s n) (uOf n) (some v) (facGo s m (f2 - 1) (i + 1)) = fuN s n) := by
                        have := hstp.out
                        rw [show stepU (fuP s n) (uOf n) (some v) x = some v by unfold stepU; rw [if_pos HP.out.symm, hU.out]; exact if_neg (by rw [p5]; decide)] at this; exact this
                      clear p5
                      go_wp2_with fail
                      go_meet
                      case rel => exact ⟨by rw [HBS.out], rfl, false, rfl, hnx⟩
                    · rw [p5] at hlt
                      have hnx : Hid (foldU (fuP s n) (uOf n) (some u) (facGo s m (f2 - 1) (i + 1)) = fuN s n) := by
                        have := hstp.out
                        rw [show stepU (fuP s n) (uOf n) (some v) x = some u by unfold stepU; rw [if_pos HP.out.symm, hU.out]; exact if_pos p5] at this; exact this
                      clear p5
                      go_wp2_with fail
                      go_meet
                      case rel => exact ⟨by rw [HBS.out], rfl, true, rfl, hnx⟩
                case rest =>
                  obtain ⟨rfl, rfl, c, rfl, hc⟩ := hcut
                  have e1 : IntKind.i64.wrap ((i : Int) + 1) = (i : Int) + 1 := IntWalk.i64_in _ (by omega)
                  cases c
                  · have hnx : Hid (foldU (fuP s n) (uOf n) r (facGo s m (f2 - 1) (i + 1)) = fuN s n) := hc
                    go_wp2_with fail
                    go_roundw
                    case rel => exact ⟨i + 1, f2 - 1, r, rfl, by go_num, HIF.out, hrn, hnx, HWB.out⟩
                    case measure => exact HMS.out
                  · have hnx : Hid (foldU (fuP s n) (uOf n) (some u) (facGo s m (f2 - 1) (i + 1)) = fuN s n) := hc
                    go_wp2_with fail
                    go_roundw
                    case rel => exact ⟨i + 1, f2 - 1, some u, rfl, by go_num, HIF.out, hsn, hnx, HWB.out⟩
                    case measure => exact HMS.out
          · obtain rfl : f2 = 0 := by omega
            have b1 : decide ((i : Int) + (n : Int) + 2 ≤ (s.size : Int)) = false := decide_eq_false (by omega)
            have hz : Hid (r = fuN s n) := hall.out
            cases r with
            | none =>
              have hnx := fuGo_no hg.out hf0 hz.out.symm
              have hbe : ((star none).toList != (⟨#[]⟩ : ByteArray).toList) = false := by unfold bne; rw [star_none_e]; rfl
              obtain ⟨b, hb⟩ : ∃ b, b = star none := ⟨_, rfl⟩
              have hbe2 : b.toList.isEmpty = true := by rw [hb, isEmptyT]; rfl
              rw [← hb] at hbe ⊢
              clear hb
              go_wp2_with fail
              go_roundw
              case rel => exact ⟨n + 1, f - 1, by go_num, by omega, hnx, hbw2⟩
              case measure => simp [intOf] <;> omega
            | some v =>
              have hR2 := fuGo_yes hg.out hf0 hz.out.symm
              have hbe : ((star (some v)).toList != (⟨#[]⟩ : ByteArray).toList) = true := by unfold bne; rw [star_some_e]; rfl
              have hbe0 := star_some_e v
              have hres : Hid (fuW s = star (some v)) := by unfold Hid; rw [hr.out, ← hR2.out]
              obtain ⟨b, hb⟩ : ∃ b, b = star (some v) := ⟨_, rfl⟩
              rw [← hb] at hbe hbe0 hres ⊢
              have hbe2 : b.toList.isEmpty = false := by rw [← empty_beq]; exact hbe0
              clear hb
              go_wp2_with fail
              go_ret
              exact ⟨ret_str hres.out.symm, hbw2⟩
      · obtain rfl : f = 0 := by omega
        have hfin : Hid (fuW s = ⟨#[]⟩) := by rw [hr.out, ← hg.out]; rfl
        have hmi2 : decide ((m : Int) ≤ (s.size : Int)) = false := decide_eq_false (by omega)
        go_wp2_with fail
        go_ret
        exact ⟨ret_str hfin.out.symm, hbw⟩

theorem lawFirstUnbalance_w (s : ByteArray) (w : World) (w0 : s.size ≤ maxLen) {mx : Int} (hm : w.cell? ⟨0, 0, none⟩ = some (.int .i64 mx)) :
    Calls Try.prog 13 #[.string s] w fun e w' => e = .returned (.bool true) ∧ Below w.heap.size w w' := by
  unfold maxLen at w0
  by_cases hs : 1048576 < s.size
  · go_enter Try.func13, Try.ntmps13
    go_wp2
    go_ret
    exact ⟨rfl, Below.refl _ _⟩
  · have h1 := fun W => Lib.hid (firstUnbalance_s s W (by omega))
    have h2 := fun W (hW : W.cell? ⟨0, 0, none⟩ = some (.int .i64 mx)) => Lib.hid (firstUnbalance_i s mx W hW (by omega))
    have hmb := World.block_lt_of_cell? w _ hm
    have HM := Lib.hid hm
    clear hm
    go_enter Try.func13, Try.ntmps13
    go_wp2_with fail
    refine (h1 _).out.mono ?_
    rintro e w1 ⟨rfl, hb1⟩
    have hq := h2 w1 (by rw [hb1.cell (p := ⟨0, 0, none⟩) hmb]; exact HM.out)
    go_wp2_with fail
    refine hq.out.mono ?_
    rintro e w2 ⟨rfl, hb2⟩
    go_wp2_with fail
    go_ret
    exact ⟨rfl, hb1.trans (hb2.mono hb1.size)⟩
end Go.Proofs.Yticbdpkmpnechaa
