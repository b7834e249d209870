/- Contracts of GapLengths and ReturnTimes in the program and in the reference. Conditions: none beyond int64 arguments. -/
import Derived.Test.YticbdpkmpnechaaS7
import Derived.Test.YticbdpkmpnechaaS5
import Derived.Test.YticbdpkmpnechaaA2
namespace Go.Proofs.Yticbdpkmpnechaa
open Go.RowKit Go.Sort
set_option linter.unusedVariables false

def glW (p q n : Int) : List Int := uniq (gapW p q n)
theorem glW_len (p q n : Int) : (glW p q n).length ≤ 400 := Nat.le_trans (uniq_len _) (gapW_len p q n)

set_option maxHeartbeats 1000000 in
theorem gapLengths_i (p q n : Int) (w : World) :
    Calls Try.prog 23 #[.int .i64 p, .int .i64 q, .int .i64 n] w (RetI (glW p q n) w) := by
  have h1 := fun W => Lib.hid (gapsOf_i p q n W)
  have hr : Hid (glW p q n = Lib.compact (sortI (gapW p q n))) := rfl
  have hl := gapW_len p q n
  obtain ⟨L, hL⟩ : ∃ L, L = gapW p q n := ⟨_, rfl⟩
  rw [← hL] at h1 hr hl
  clear hL
  have hl1 := sortI_len L
  go_enter Try.func23, Try.ntmps23
  go_wp2_with fail
  refine (h1 _).out.mono ?_
  rintro e w1 ⟨v, rfl, ho, hb⟩
  have HO := Lib.hid ho
  have HB := Lib.hid hb
  have hs1 := hb.size
  clear ho hb
  go_wp2_with fail
  refine (sortI_c v _ _ _ HO.out (by omega)).mono ?_
  rintro e w2 ⟨rfl, ho1, hg1⟩
  have HO1 := Lib.hid ho1
  have hb1 := below_app HB.out HO.out hg1 hs1
  have HB1 := Lib.hid hb1
  have hs2 := hb1.size
  clear ho1 hg1 hb1
  go_wp2_with fail
  refine (compactI_c v _ _ _ HO1.out (by omega)).mono ?_
  rintro e w3 ⟨v', rfl, ho2, hg2, -⟩
  have HO2 := Lib.hid ho2
  have HB2 := Lib.hid (below_app HB1.out HO1.out hg2 hs2)
  clear ho2 hg2
  go_wp2_with fail
  go_ret
  exact ⟨_, rfl, by rw [hr.out]; exact HO2.out, HB2.out⟩

set_option maxHeartbeats 1000000 in
theorem gapLengths_s (p q n : Int) (w : World) :
    Calls Try.prog 22 #[.int .i64 p, .int .i64 q, .int .i64 n] w (RetI (glW p q n) w) := by
  have h1 := fun W => Lib.hid (gapsOf_s p q n W)
  have hr : Hid (glW p q n = insAllI [] ((gapW p q n).take (gapW p q n).length)) := by unfold Hid; rw [List.take_length]; exact uniq_ins _
  have hl := gapW_len p q n
  obtain ⟨L, hL⟩ : ∃ L, L = gapW p q n := ⟨_, rfl⟩
  rw [← hL] at h1 hr hl
  clear hL
  have hst0 : Hid (OwnI (w.alloc (.cells #[] 3)) w.heap.size (.slice (some ⟨w.heap.size, 0, none⟩) 0 0) []) := ownI_empty w (Nat.le_refl _)
  obtain ⟨G, hG⟩ : ∃ G, G = w.heap.size := ⟨_, rfl⟩
  have HG := Lib.hid hG
  have HB0 : Hid (Below w.heap.size w (w.alloc (.cells #[] 3))) := (Below.refl _ _).alloc (Nat.le_refl _) _
  go_enter Try.func22, Try.ntmps22
  go_wp2_with fail
  refine (h1 _).out.mono ?_
  rintro e w1 ⟨v0, rfl, ho, hb⟩
  have HO := Lib.hid ho
  have HB := Lib.hid (HB0.out.trans (hb.mono (by simp)))
  have HE := Lib.hid (own_below hst0.out hb)
  have hs1 := HB.out.size
  have hrd := ho.rd
  clear ho hb
  rcases hrd with ⟨rfl, h0⟩ | ⟨g, cap, rfl, hcap, hc⟩
  · subst h0
    go_wp2
    refine wp_loop_rounds 1 ?_
    rw [rounds_succ]
    go_wp2
    go_ret
    exact ⟨_, rfl, by rw [hr.out]; exact HE.out, HB.out⟩
  · obtain ⟨N, hN⟩ : ∃ N, N = L.length := ⟨_, rfl⟩
    have HN := Lib.hid hN
    have HC := Lib.hid hc
    rw [← hN] at hcap hl hr ⊢
    clear hc hN
    go_wp2
    go_loopw [7, 16] (fun o i wr => ∃ (k g' cap' : Nat), k ≤ N ∧ i = .int .i64 k ∧ o = .slice (some ⟨g', 0, none⟩) (insAllI [] (L.take k)).length cap' ∧ Hid (OwnI wr w.heap.size (.slice (some ⟨g', 0, none⟩) (insAllI [] (L.take k)).length cap') (insAllI [] (L.take k))) ∧ Below w.heap.size w wr ∧ Below w1.heap.size w1 wr) (fun _ i _ => N - (intOf i).toNat)
    case atStart => exact ⟨0, w.heap.size, 0, by omega, rfl, rfl, HE, HB.out, Below.refl _ _⟩
    case round =>
      obtain ⟨k, g', cap', hk, rfl, rfl, hown, hbw, hb1⟩ := hrel
      have hsz := hbw.size
      have hsz1 := hb1.size
      by_cases hlt : k < N
      · obtain ⟨x, hx⟩ : ∃ x, L[k]? = some x := ⟨_, List.getElem?_eq_getElem (by rw [← HN.out]; exact hlt)⟩
        have cx : wr.cell? ⟨g, k, none⟩ = some (.int .i64 x) := by
          have := HC.out k x hx
          rw [hb1.cell (p := ⟨g, k, none⟩) (World.block_lt_of_cell? w1 _ this)]; exact this
        have hnx := Lib.hid (insTo_succ hx)
        have hil := insAllI_len [] (L.take k)
        have htl : (L.take k).length ≤ k := by rw [List.length_take]; omega
        rw [List.length_nil] at hil
        obtain ⟨acc, hacc⟩ : ∃ acc, acc = insAllI [] (L.take k) := ⟨_, rfl⟩
        rw [← hacc] at hnx hown hil ⊢
        clear hacc
        have hins := Lib.hid (l11Insert_c g' cap' w.heap.size acc x wr hown.out (by omega) hsz)
        have b1 : (k : Int) < (N : Int) := by omega
        clear hx
        go_wp2_with fail
        refine hins.out.mono ?_
        rintro e w2 ⟨g2, cap2, rfl, ho2, hb2⟩
        have HO2 := Lib.hid ho2
        clear ho2
        go_wp2_with fail
        go_roundw
        case rel => exact ⟨k + 1, g2, cap2, by omega, by go_num, by rw [hnx.out], by rw [hnx.out]; exact HO2.out, hbw.trans (hb2.mono hsz), hb1.trans (hb2.mono hsz1)⟩
        case measure => simp [intOf] <;> omega
      · obtain rfl : k = N := by omega
        have hfin : Hid (OwnI wr w.heap.size (.slice (some ⟨g', 0, none⟩) (insAllI [] (L.take k)).length cap') (glW p q n)) := by rw [hr.out]; exact hown.out
        go_wp2
        go_ret
        exact ⟨_, rfl, hfin.out, hbw⟩
end Go.Proofs.Yticbdpkmpnechaa
