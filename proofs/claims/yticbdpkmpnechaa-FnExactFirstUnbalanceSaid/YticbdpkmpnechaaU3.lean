/- Contracts of FirstUnbalance in the program and in the reference, and the walk of its law. Conditions: strings of at most 2^20 bytes; the library's variable MaxLen holds a number. -/
import Derived.Test.YticbdpkmpnechaaU2
import Derived.Test.YticbdpkmpnechaaU1
import Derived.Test.YticbdpkmpnechaaE1
import Derived.Test.YticbdpkmpnechaaE3
import Derived.Test.YticbdpkmpnechaaShelf
namespace Go.Proofs.Yticbdpkmpnechaa
open Go.RowKit
set_option linter.unusedVariables false

def fuW (s : ByteArray) : ByteArray := if binB s = true then star (fuGo s (s.size - 1) 0) else ⟨#[]⟩
theorem find_cons {P : ByteArray → Bool} {L : List ByteArray} {k : Nat} {x : ByteArray} (h : L[k]? = some x) : (L.drop k).find? P = if P x = true then some x else (L.drop (k + 1)).find? P := by
  have hk := (List.getElem?_eq_some_iff.1 h).1
  rw [List.drop_eq_getElem_cons hk, (List.getElem?_eq_some_iff.1 h).2, List.find?_cons]
  cases P x <;> rfl

set_option maxRecDepth 20000 in
set_option maxHeartbeats 4000000 in
theorem firstUnbalance_i (s : ByteArray) (mx : Int) (w : World) (hm : w.cell? ⟨0, 0, none⟩ = some (.int .i64 mx)) (hs : s.size ≤ 1048576) :
    Calls Try.prog 42 #[.string s] w fun e w' => e = .returned (.string (fuW s)) ∧ Below w.heap.size w w' := by
  have h1 := Lib.hid (isBinary_i s w (by omega))
  have hmb := World.block_lt_of_cell? w _ hm
  have HM := Lib.hid hm
  cases hok : binB s
  · have hr : Hid (fuW s = ⟨#[]⟩) := by simp [fuW, hok, Hid]
    rw [hok] at h1
    go_enter Try.func42, Try.ntmps42
    go_wp2_with fail
    refine h1.out.mono ?_
    rintro e w' ⟨rfl, hb⟩
    go_wp2_with fail
    go_ret
    exact ⟨ret_str hr.out.symm, hb⟩
  · have hw : wordL s.data.toList = true := by unfold binB at hok; rw [Bool.and_eq_true] at hok; exact hok.1
    have hs4 := wordL_size hw
    obtain ⟨R, hR⟩ : ∃ R, R = fuGo s (s.size - 1) 0 := ⟨_, rfl⟩
    have hr : Hid (fuW s = star R) := by unfold Hid fuW; rw [if_pos hok, hR]
    have hst : Hid (fuGo s (s.size - 1) 0 = R) := hR.symm
    rw [hok] at h1
    clear hok hw hR hm
    go_enter Try.func42, Try.ntmps42
    go_wp2_with fail
    refine h1.out.mono ?_
    rintro e w0 ⟨rfl, hb0⟩
    go_wp2_with fail
    go_loopw [3] (fun z wr => ∃ n f : Nat, z = .int .i64 n ∧ n + f = s.size - 1 ∧ Hid (fuGo s f n = R) ∧ Below w.heap.size w wr) (fun z _ => s.size - (intOf z).toNat)
    case atStart => exact ⟨0, s.size - 1, rfl, by omega, hst, hb0⟩
    case round =>
      obtain ⟨n, f, rfl, hnf, hg, hbw⟩ := hrel
      have hsz := hbw.size
      obtain ⟨m, hmn⟩ : ∃ m : Nat, m = n + 2 := ⟨_, rfl⟩
      have hmi : (n : Int) + 2 = (m : Int) := by omega
      have HMN := Lib.hid hmn
      clear hmn
      have em : IntKind.i64.wrap (m : Int) = (m : Int) := IntWalk.i64_in _ (by omega)
      by_cases hle : m ≤ s.size
      · have hf0 : 0 < f := by omega
        have hmi2 : (m : Int) ≤ (s.size : Int) := by omega
        have hfc := Lib.hid (factorsOf_c s m wr (by omega) (by omega))
        have hfl := facW_len s m
        have hfs := Lib.hid (fun x => @facW_size s x m)
        have hN0 : Hid (((facW s m).find? (fuP s n)).map (uOf n) = fuN s n) := by rw [HMN.out]; rfl
        obtain ⟨L, hL⟩ : ∃ L, L = facW s m := ⟨_, rfl⟩
        rw [← hL] at hfc hfl hfs hN0
        have hst2 : Hid (((L.drop 0).find? (fuP s n)).map (uOf n) = fuN s n) := hN0
        clear hL
        go_wp2_with fail
        refine hfc.out.mono ?_
        rintro e w1 ⟨v, rfl, ho, hb1⟩
        obtain ⟨ga, cc, rfl, hcell⟩ := rdS_shape ho.rd
        have HC := Lib.hid hcell
        have hbw1 := Lib.hid (hbw.trans (hb1.mono hsz))
        obtain ⟨N, hN⟩ : ∃ N, N = L.length := ⟨_, rfl⟩
        have HN := Lib.hid hN
        rw [← hN] at hfl ⊢
        clear hcell hN ho
        go_wp2_with fail
        go_loopw [22] (fun z wi => ∃ k : Nat, z = .int .i64 k ∧ k ≤ N ∧ Hid (((L.drop k).find? (fuP s n)).map (uOf n) = fuN s n) ∧ Below w.heap.size w wi ∧ Below w1.heap.size w1 wi) (fun z _ => N - (intOf z).toNat)
        case atStart => exact ⟨0, rfl, by omega, hst2, hbw1.out, Below.refl _ _⟩
        case round =>
          obtain ⟨k, rfl, hk, hall, hbw2, hbi⟩ := hrel
          by_cases hlk : k < N
          · obtain ⟨x, hx⟩ : ∃ x, L[k]? = some x := ⟨_, List.getElem?_eq_getElem (by rw [← HN.out]; exact hlk)⟩
            obtain ⟨g, rfl, cx0, hcap⟩ := HC.out k x hx
            rw [← HN.out] at hcap
            have cx : wr.cell? ⟨g, k, none⟩ = some (.string x) := by rw [hbi.cell (p := ⟨g, k, none⟩) (World.block_lt_of_cell? w1 _ cx0)]; exact cx0
            have hxs := hfs.out x (List.mem_of_getElem? hx)
            have hfd := Lib.hid (find_cons (P := fuP s n) hx)
            have b1 : (k : Int) < (N : Int) := by omega
            clear hx cx0
            have q0 : 0 < x.size := by omega
            have q1 : n + 1 < x.size := by omega
            have i1 : (0 : Int) < (x.size : Int) := by omega
            have i2 : (n : Int) + 1 < (x.size : Int) := by omega
            have i3 : (1 : Int) ≤ (n : Int) + 1 := by omega
            have i4 : (n : Int) + 1 ≤ (x.size : Int) := by omega
            have i5 : 0 ≤ (n : Int) + 1 := by omega
            have e1 : IntKind.i64.wrap ((n : Int) + 1) = (n : Int) + 1 := IntWalk.i64_in _ (by omega)
            have e2 : ((n : Int) + 1).toNat = n + 1 := by omega
            have zu : (x.extract 1 (n + 1)).size = n := by rw [ext_size x 1 (n + 1) (by omega) (by omega)]; omega
            have z0 : (⟨#[98]⟩ : ByteArray).size = 1 := rfl
            have z1 : ((⟨#[98]⟩ : ByteArray) ++ x.extract 1 (n + 1)).size = n + 1 := by rw [ByteArray.size_append, zu, z0]; omega
            have z2 : ((⟨#[98]⟩ : ByteArray) ++ x.extract 1 (n + 1) ++ (⟨#[98]⟩ : ByteArray)).size = n + 2 := by rw [ByteArray.size_append, z1, z0]
            have y0 : (⟨#[42]⟩ : ByteArray).size = 1 := rfl
            have y1 : ((⟨#[42]⟩ : ByteArray) ++ x.extract 1 (n + 1)).size = n + 1 := by rw [ByteArray.size_append, zu, y0]; omega
            have hx0 := fuA_eq x 0 q0
            have hx1 := fuA_eq x (n + 1) q1
            have hT := Lib.hid (isTurned_c (x.extract 1 (n + 1)) wr (by omega))
            have hPe : Hid (fuP s n x = (fuA x 0 && (fuA x (n + 1) && (isPal (x.extract 1 (n + 1)) && Lib.contains s.data.toList ((⟨#[98]⟩ : ByteArray) ++ x.extract 1 (n + 1) ++ (⟨#[98]⟩ : ByteArray)).data.toList)))) := rfl
            have hCt := fun W (hW : W.cell? ⟨0, 0, none⟩ = some (.int .i64 mx)) => Lib.hid (Try.strings_Contains s ((⟨#[98]⟩ : ByteArray) ++ x.extract 1 (n + 1) ++ (⟨#[98]⟩ : ByteArray)) mx W (by omega) hW)
            cases p0 : fuA x 0
            · rw [p0] at hx0 hPe
              have hnx : Hid (((L.drop (k + 1)).find? (fuP s n)).map (uOf n) = fuN s n) := by have := hall.out; rw [hfd.out, if_neg (by rw [hPe.out]; simp)] at this; exact this
              clear p0
              go_wp2_with fail
              go_roundw
              case rel => exact ⟨k + 1, by go_num, by omega, hnx, hbw2, hbi⟩
              case measure => simp [intOf] <;> omega
            · rw [p0] at hx0 hPe
              cases p1 : fuA x (n + 1)
              · rw [p1] at hx1 hPe
                have hnx : Hid (((L.drop (k + 1)).find? (fuP s n)).map (uOf n) = fuN s n) := by have := hall.out; rw [hfd.out, if_neg (by rw [hPe.out]; simp)] at this; exact this
                clear p0 p1
                go_wp2_with fail
                go_roundw
                case rel => exact ⟨k + 1, by go_num, by omega, hnx, hbw2, hbi⟩
                case measure => simp [intOf] <;> omega
              · rw [p1] at hx1 hPe
                cases p2 : isPal (x.extract 1 (n + 1))
                · rw [p2] at hT hPe
                  have hnx : Hid (((L.drop (k + 1)).find? (fuP s n)).map (uOf n) = fuN s n) := by have := hall.out; rw [hfd.out, if_neg (by rw [hPe.out]; simp)] at this; exact this
                  clear p0 p1 p2
                  go_wp2_with fail
                  refine hT.out.mono ?_
                  rintro e w2 ⟨rfl, hb2⟩
                  go_wp2_with fail
                  go_roundw
                  case rel => exact ⟨k + 1, by go_num, by omega, hnx, hbw2.trans (hb2.mono hbw2.size), hbi.trans (hb2.mono hbi.size)⟩
                  case measure => simp [intOf] <;> omega
                · rw [p2] at hT hPe
                  cases p3 : Lib.contains s.data.toList ((⟨#[98]⟩ : ByteArray) ++ x.extract 1 (n + 1) ++ (⟨#[98]⟩ : ByteArray)).data.toList
                  · rw [p3] at hPe
                    have hnx : Hid (((L.drop (k + 1)).find? (fuP s n)).map (uOf n) = fuN s n) := by have := hall.out; rw [hfd.out, if_neg (by rw [hPe.out]; simp)] at this; exact this
                    clear p0 p1 p2
                    go_wp2_with fail
                    refine hT.out.mono ?_
                    rintro e w2 ⟨rfl, hb2⟩
                    have hb22 := hbw2.trans (hb2.mono hbw2.size)
                    have hq := hCt w2 (by rw [hb22.cell (p := ⟨0, 0, none⟩) hmb]; exact HM.out)
                    rw [p3] at hq
                    clear p3
                    go_wp2_with fail
                    refine hq.out.mono ?_
                    rintro e w3 ⟨rfl, rfl⟩
                    go_wp2_with fail
                    go_roundw
                    case rel => exact ⟨k + 1, by go_num, by omega, hnx, hbw2.trans (hb2.mono hbw2.size), hbi.trans (hb2.mono hbi.size)⟩
                    case measure => simp [intOf] <;> omega
                  · rw [p3] at hPe
                    have hfin : Hid (fuN s n = some (x.extract 1 (n + 1))) := by have := hall.out; rw [hfd.out, if_pos (by rw [hPe.out]; rfl)] at this; exact this.symm
                    have hR2 := fuGo_yes hg.out hf0 hfin.out
                    have hres : Hid (fuW s = (⟨#[42]⟩ : ByteArray) ++ x.extract 1 (n + 1) ++ (⟨#[42]⟩ : ByteArray)) := by rw [hr.out, ← hR2.out]; rfl
                    clear p0 p1 p2
                    go_wp2_with fail
                    refine hT.out.mono ?_
                    rintro e w2 ⟨rfl, hb2⟩
                    have hb22 := hbw2.trans (hb2.mono hbw2.size)
                    have hq := hCt w2 (by rw [hb22.cell (p := ⟨0, 0, none⟩) hmb]; exact HM.out)
                    rw [p3] at hq
                    clear p3
                    go_wp2_with fail
                    refine hq.out.mono ?_
                    rintro e w3 ⟨rfl, rfl⟩
                    go_wp2_with fail
                    go_ret
                    exact ⟨ret_str hres.out.symm, hb22⟩
          · obtain rfl : k = N := by omega
            have hz : Hid (fuN s n = none) := by have := hall.out; rw [List.drop_of_length_le (by rw [← HN.out]; exact Nat.le_refl _)] at this; exact this.symm
            have hnx := fuGo_no hg.out hf0 hz.out
            have e1 : IntKind.i64.wrap ((n : Int) + 1) = (n : Int) + 1 := IntWalk.i64_in _ (by omega)
            go_wp2
            go_roundw
            case rel => exact ⟨n + 1, f - 1, by go_num, by omega, hnx, hbw2⟩
            case measure => simp [intOf] <;> omega
      · obtain rfl : f = 0 := by omega
        have hfin : Hid (fuW s = ⟨#[]⟩) := by rw [hr.out, ← hg.out]; rfl
        have hmi2 : decide ((m : Int) ≤ (s.size : Int)) = false := decide_eq_false (by omega)
        go_wp2_with fail
        go_ret
        exact ⟨ret_str hfin.out.symm, hbw⟩

end Go.Proofs.Yticbdpkmpnechaa
