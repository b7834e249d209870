/- Contracts of PowerNeeded and OrbitOfFirst in the program, at a substitution for which a is growing. Conditions: its images can be read. -/
import Derived.Test.YtlmciomoimfajaaX6
namespace Go.Proofs.Ytlmciomoimfajaa
open Go.RowKit
set_option linter.unusedVariables false

theorem st_first {l r : List UInt8} (e : l = 97 :: r) (h0 : 0 < (St l).size) : (St l)[0].toNat = 97 := by subst e; rfl
theorem im_first {L : List ByteArray} (h : GrL L) : ∃ u : ByteArray, St (imL L 97) = u ∧ 2 ≤ u.size ∧ ∀ h0 : 0 < u.size, u[0].toNat = 97 := by
  obtain ⟨r, e, h1⟩ := h.grow
  exact ⟨_, rfl, by rw [St_size, e, List.length_cons]; omega, fun h0 => st_first e h0⟩
set_option maxRecDepth 20000 in
set_option maxHeartbeats 4000000 in
theorem powerNeeded_i (ga : Option Addr) (n c : Nat) (L : List ByteArray) (w : World) (h : RdSub w ga n c L) (hg : GrL L) :
    Calls Try.prog 79 #[sbV ga n c] w fun e w' => e = .returned (.int .i64 1) ∧ Below w.heap.size w w' := by
  have hok := hg.toOkL
  have hn := h.1
  have h0 := hok.one
  have hn1 : 1 ≤ n := by omega
  have h1 := Lib.hid (fun W (hW : Below w.heap.size w W) => substOk_i ga n c L W (h.below hW) hok)
  have h2 := Lib.hid (fun W (hW : Below w.heap.size w W) => image_c ga n c L 97 W (h.below hW) hok (in_a hok))
  obtain ⟨u, hu, hu2, hu0⟩ := im_first hg
  rw [hu] at h2
  have h00 : 0 < u.size := by omega
  have hu97 : ((u[0].toNat : Nat) : Int) = 97 := by have := hu0 h00; omega
  unfold sbV at h1 h2 ⊢
  have hba : Below w.heap.size w (w.alloc (.cells #[.slice ga n c] 67)) := (Below.refl _ _).alloc (Nat.le_refl _) _
  have cw := box_cell w (.slice ga n c) 67
  obtain ⟨wa, hwa⟩ : ∃ wa, wa = w.alloc (.cells #[.slice ga n c] 67) := ⟨_, rfl⟩
  have hszw : w.heap.size < wa.heap.size := by rw [hwa]; simp
  rw [← hwa] at cw hba
  have CW := Lib.hid (fun W (hW : Below wa.heap.size wa W) => show W.cell? ⟨w.heap.size, 0, none⟩ = some (.slice ga n c) by rw [hW.cell (p := ⟨w.heap.size, 0, none⟩) hszw]; exact cw)
  have HBA := Lib.hid hba
  have HWA := Lib.hid hwa
  clear h hwa hba cw hg hok hn h0 hu hu0
  go_enter Try.func79, Try.ntmps79
  go_wp2_with fail
  rw [← HWA.out]
  refine (h1.out wa HBA.out).mono ?_
  rintro e w1 ⟨rfl, b1⟩
  have K1 := Lib.hid b1
  have cb := CW.out w1 b1
  have b2 : decide ((0 : Int) < (n : Int)) = true := decide_eq_true (by omega)
  have b2n : decide (0 < n) = true := decide_eq_true (by omega)
  clear b1
  go_wp2_with fail
  refine wp_loop_rounds 1 ?_
  rw [rounds_succ]
  go_wp2_with fail
  refine wp_loop_rounds 1 ?_
  rw [rounds_succ]
  go_wp2_with fail
  go_loopw [5, 20] (fun y z wr => ∃ k : Nat, y = .int .u8 97 ∧ z = .int .i64 (k : Int) ∧ k ≤ 1 ∧ Below wa.heap.size wa wr) (fun _ z _ => 1 - (intOf z).toNat)
  case atStart => exact ⟨0, rfl, rfl, by omega, K1.out⟩
  case round =>
    obtain ⟨k, rfl, rfl, hk, hbr⟩ := hrel
    have cbr := CW.out wr hbr
    by_cases hlt : k < 1
    · have b3 : (k : Int) < 1 := by omega
      have q2 := Lib.hid (h2.out wr (HBA.out.trans (hbr.mono (by omega))))
      have HBR := Lib.hid hbr
      go_wp2_with fail
      refine q2.out.mono ?_
      rintro e w2 ⟨rfl, rfl⟩
      go_wp2_with fail
      go_roundw
      case rel => exact ⟨k + 1, rfl, by go_num, by omega, HBR.out.alloc HBR.out.size _⟩
      case measure => simp [intOf] <;> omega
    · obtain rfl : k = 1 := by omega
      have HBR := Lib.hid (HBA.out.trans (hbr.mono (by omega)))
      go_wp2_with fail
      go_ret
      exact ⟨rfl, HBR.out⟩
theorem zeros_one : ∀ v ∈ (Try.zeroCells101).toList, v.oneCell' = true := by
  have : (Try.zeroCells101).toList.all (fun v => v.oneCell') = true := by kernel_rfl
  exact fun v hv => List.all_eq_true.1 this v hv
theorem zeros_at : (Try.zeroCells101)[97]? = some (.bool false) := by kernel_rfl
theorem zeros_store (w : World) : (storeCells ⟨w.heap.size, 0, none⟩ (Try.zeroCells101).toList).run Try.prog (w.alloc (.cells Try.zeroCells101 101)) = .ok () (w.alloc (.cells Try.zeroCells101 101)) := by
  have hh : (w.alloc (.cells Try.zeroCells101 101)).heap[w.heap.size]? = some (.cells Try.zeroCells101 101 (0, 0)) := heap_alloc_new w _
  have h := run_storeCells_at Try.prog w.heap.size 0 101 (Try.zeroCells101).toList 0 Try.zeroCells101 _ hh (by simp) zeros_one
  rw [h]
  congr 1
  have e : ((Try.zeroCells101).toList.take (0 + 0) ++ (Try.zeroCells101).toList ++ (Try.zeroCells101).toList.drop (0 + 0 + (Try.zeroCells101).toList.length)).toArray = Try.zeroCells101 := by rw [Nat.zero_add, Nat.zero_add, List.take_zero, List.nil_append, List.drop_length, List.append_nil]
  rw [e]
  exact setRow_self _ _ _ _ _ hh
set_option maxRecDepth 20000 in
set_option maxHeartbeats 4000000 in
theorem orbitOfFirst_i (ga : Option Addr) (n c : Nat) (L : List ByteArray) (w : World) (h : RdSub w ga n c L) (hg : GrL L) :
    Calls Try.prog 80 #[sbV ga n c, .string (St [letU 0])] w fun e w' => e = .returned (.string (St [letU 0])) ∧ Below w.heap.size w w' := by
  have hok := hg.toOkL
  have hn := h.1
  have h0 := hok.one
  have hn1 : 0 < n := by omega
  have h1 := Lib.hid (fun W (hW : Below w.heap.size w W) => substOk_i ga n c L W (h.below hW) hok)
  have h3 := Lib.hid (fun W (hW : Below w.heap.size w W) => hasImage_c ga n c L 0 W (h.below hW) hok hn1)
  have h2 := Lib.hid (fun W (hW : Below w.heap.size w W) => image_c ga n c L 97 W (h.below hW) hok (in_a hok))
  obtain ⟨u, hu, hu2, hu0⟩ := im_first hg
  rw [hu] at h2
  have h00 : 0 < u.size := by omega
  have hu97 : ((u[0].toNat : Nat) : Int) = 97 := by have := hu0 h00; omega
  obtain ⟨t, ht⟩ : ∃ t, t = St [letU 0] := ⟨_, rfl⟩
  have htz : t.size = 1 := by rw [ht, St_size]; rfl
  have ht0 : ((t[0]'(by omega)).toNat : Int) = 97 := by simp [ht, St]; rfl
  have h01 : 0 < t.size := by omega
  have hte : Hid (t = St [letU 0]) := ht
  rw [← ht] at h3 ⊢
  unfold sbV at h1 h2 h3 ⊢
  have hba : Below w.heap.size w (w.alloc (.cells #[.slice ga n c] 67)) := (Below.refl _ _).alloc (Nat.le_refl _) _
  have cw := box_cell w (.slice ga n c) 67
  obtain ⟨wa, hwa⟩ : ∃ wa, wa = w.alloc (.cells #[.slice ga n c] 67) := ⟨_, rfl⟩
  have hszw : w.heap.size < wa.heap.size := by rw [hwa]; simp
  rw [← hwa] at cw hba
  have CW := Lib.hid (fun W (hW : Below wa.heap.size wa W) => show W.cell? ⟨w.heap.size, 0, none⟩ = some (.slice ga n c) by rw [hW.cell (p := ⟨w.heap.size, 0, none⟩) hszw]; exact cw)
  have HBA := Lib.hid hba
  have HWA := Lib.hid hwa
  clear h hwa hba cw hg hok hn h0 hu hu0 ht
  go_enter Try.func80, Try.ntmps80
  go_wp2_with fail
  rw [← HWA.out]
  refine (h1.out wa HBA.out).mono ?_
  rintro e w1 ⟨rfl, b1⟩
  have K1 := Lib.hid b1
  have cb := CW.out w1 b1
  clear b1
  go_wp2_with fail
  refine (h3.out w1 (HBA.out.trans (K1.out.mono (by omega)))).mono ?_
  rintro e w2 ⟨rfl, b2⟩
  have K2 := Lib.hid (K1.out.trans (b2.mono K1.out.size))
  clear b2 cb
  have hzs := zeros_store w2
  have hb3 : Hid (Below wa.heap.size wa (w2.alloc (.cells Try.zeroCells101 101))) := K2.out.alloc K2.out.size _
  have hc3 : (w2.alloc (.cells Try.zeroCells101 101)).cell? ⟨w2.heap.size, 97, none⟩ = some (.bool false) := by
    unfold World.cell?; rw [heap_alloc_new w2 _]; exact zeros_at
  have hf3 : (w2.alloc (.cells Try.zeroCells101 101)).frozen? ⟨w2.heap.size, 97, none⟩ = false := by
    unfold World.frozen?; rw [heap_alloc_new w2 _]; rfl
  have hs3 : w2.heap.size < (w2.alloc (.cells Try.zeroCells101 101)).heap.size := by simp
  obtain ⟨w3, hw3⟩ : ∃ w3, w3 = w2.alloc (.cells Try.zeroCells101 101) := ⟨_, rfl⟩
  rw [← hw3] at hb3 hc3 hf3 hs3
  have HW3 := Lib.hid hw3
  clear hw3
  go_wp2_with fail
  rw [← HW3.out]
  clear hzs
  obtain ⟨b, hb⟩ : ∃ b, b = w2.heap.size := ⟨_, rfl⟩
  rw [← hb] at hc3 hf3 hs3 ⊢
  have hbw := K2.out.size
  rw [← hb] at hbw
  have hen : Utf8.encode 97 = t := by rw [hte.out]; rfl
  have hcc : (⟨#[]⟩ : ByteArray) ++ t = t := by apply str_inj; rw [ByteArray.data_append, Array.toList_append]; rfl
  have cb3 := CW.out w3 hb3.out
  obtain ⟨w4, hw4⟩ : ∃ w4, w4 = w3.setCell ⟨b, 97, none⟩ (.bool true) := ⟨_, rfl⟩
  have c4 : w4.cell? ⟨b, 97, none⟩ = some (.bool true) := by rw [hw4]; exact World.cell?_setCell_same _ _ _ hc3
  have hb4 : Hid (Below wa.heap.size wa w4) := by rw [hw4]; exact hb3.out.setCell (p := ⟨b, 97, none⟩) hbw _
  have cb4 := CW.out w4 hb4.out
  have q2 := Lib.hid (h2.out w4 (HBA.out.trans (hb4.out.mono (by omega))))
  have HW4 := Lib.hid hw4
  have hte2 := Lib.hid hte.out
  clear hw4 hb h1 h2 h3
  refine wp_loop_rounds 2 ?_
  rw [rounds_succ]
  go_wp2_with fail
  rw [← HW4.out]
  refine q2.out.mono ?_
  rintro e w5 ⟨rfl, rfl⟩
  have hb5 : Hid (Below wa.heap.size wa (w4.alloc (.cells #[.slice ga n c] 67))) := hb4.out.alloc hb4.out.size _
  have hlt4 := World.block_lt_of_cell? w4 _ c4
  have c5 : (w4.alloc (.cells #[.slice ga n c] 67)).cell? ⟨b, 97, none⟩ = some (.bool true) := by rw [← c4]; unfold World.cell?; rw [Below.heap_alloc w4 _ b hlt4]
  have cb5 := CW.out _ hb5.out
  go_wp2_with fail
  rw [rounds_succ]
  go_wp2_with fail
  go_ret
  exact ⟨rfl, HBA.out.trans (hb5.out.mono (by omega))⟩
end Go.Proofs.Ytlmciomoimfajaa
