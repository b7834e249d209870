/- Contracts of LetterAt, IsFixedStart, FixedFactors, GrowingLetters, PowerNeeded, OrbitOfFirst in the program, at the letter a. Conditions: a substitution for which a is growing, whose images can be read. -/
import Derived.Test.YtlmciomoimfajaaX5
import Derived.Test.YtlmciomoimfajaaT7
import Derived.Test.YtlmciomoimfajaaB9
namespace Go.Proofs.Ytlmciomoimfajaa
open Go.RowKit
set_option linter.unusedVariables false

theorem fx_letter {L : List ByteArray} (h : GrL L) {m : Nat} (hm : m < 200) : St ((fxL L (m + 1)).drop m) = (St (fxL L 200)).extract m (m + 1) := by
  apply str_inj
  rw [St_data, ext_data, St_data, ← fxL_take h (show m + 1 ≤ 200 by omega), List.drop_take, show m + 1 - m = 1 by omega]
set_option maxRecDepth 20000 in
set_option maxHeartbeats 2000000 in
theorem letterAt_i (ga : Option Addr) (n c : Nat) (L : List ByteArray) (m : Nat) (w : World) (h : RdSub w ga n c L) (hg : GrL L) (hm : m ≤ 10000) :
    Calls Try.prog 74 #[sbV ga n c, .string (St [letU 0]), .int .i64 (m : Int)] w fun e w' => e = .returned (.tuple #[.string (St ((fxL L (m + 1)).drop m)), .bool true]) ∧ Below w.heap.size w w' := by
  have hok := hg.toOkL
  have hn := h.1
  have h0 := hok.one
  have h1 := Lib.hid (fun W (hW : Below w.heap.size w W) => substOk_i ga n c L W (h.below hW) hok)
  have h2 := Lib.hid (fun W (hW : Below w.heap.size w W) => isGrowing_c ga n c L 0 W (h.below hW) hok (by omega))
  rw [growB_a hg] at h2
  have h3 := fun W => Lib.hid (within_c (m : Int) 0 10000 W)
  rw [inB_iff.2 (show (0 : Int) ≤ (m : Int) ∧ (m : Int) ≤ 10000 by omega)] at h3
  obtain ⟨m1, hm1⟩ : ∃ m1, m1 = m + 1 := ⟨_, rfl⟩
  have h4 := Lib.hid (fun W (hW : Below w.heap.size w W) => fixed_c ga n c L m1 W (h.below hW) hg (by omega))
  have h5 := Lib.hid (fun out (ho : FixP L out) (hl : m1 ≤ out.length) => fixP_St hg ho hl)
  unfold sbV at h1 h2 h4 ⊢
  have hba : Below w.heap.size w (w.alloc (.cells #[.slice ga n c] 67)) := (Below.refl _ _).alloc (Nat.le_refl _) _
  have cw := box_cell w (.slice ga n c) 67
  obtain ⟨wa, hwa⟩ : ∃ wa, wa = w.alloc (.cells #[.slice ga n c] 67) := ⟨_, rfl⟩
  have hszw : w.heap.size < wa.heap.size := by rw [hwa]; simp
  rw [← hwa] at cw hba
  have CW := Lib.hid (fun W (hW : Below wa.heap.size wa W) => show W.cell? ⟨w.heap.size, 0, none⟩ = some (.slice ga n c) by rw [hW.cell (p := ⟨w.heap.size, 0, none⟩) hszw]; exact cw)
  have HBA := Lib.hid hba
  have HWA := Lib.hid hwa
  obtain ⟨t, ht⟩ : ∃ t, t = St [letU 0] := ⟨_, rfl⟩
  rw [← ht] at h2 h4 ⊢
  rw [← hm1]
  have em : (m : Int) + 1 = (m1 : Int) := by omega
  have em2 : IntKind.i64.wrap (m1 : Int) = (m1 : Int) := IntWalk.i64_in _ (by omega)
  have em3 : m ≤ m1 := by omega
  have HM1 := Lib.hid hm1
  clear h hok hwa hba cw hn h0 ht hg hm1
  go_enter Try.func74, Try.ntmps74
  go_wp2_with fail
  rw [← HWA.out]
  refine (h1.out wa HBA.out).mono ?_
  rintro e w1 ⟨rfl, b1⟩
  have K1 := Lib.hid b1
  have cb := CW.out w1 b1
  clear b1
  go_wp2_with fail
  refine (h2.out w1 (HBA.out.trans (K1.out.mono (by omega)))).mono ?_
  rintro e w2 ⟨rfl, b2⟩
  have K2 := Lib.hid (K1.out.trans (b2.mono K1.out.size))
  have cb2 := CW.out w2 K2.out
  clear b2 cb
  go_wp2_with fail
  refine (h3 _).out.mono ?_
  rintro e w' ⟨rfl, rfl⟩
  go_wp2_with fail
  refine (h4.out w2 (HBA.out.trans (K2.out.mono (by omega)))).mono ?_
  rintro e w3 ⟨v, out, rfl, ho, hf, hl1, hl2, b3⟩
  have K3 := Lib.hid (K2.out.trans (b3.mono K2.out.size))
  have htk := Lib.hid (h5.out out hf hl1)
  obtain ⟨g, cap, hv, hcap, hcell⟩ := ho.read
  subst hv
  have hcv : ∀ k, (convert 22 9 (.slice (some ⟨g, m, none⟩) 1 k)).run Try.prog w3 = .ok (.string (St ((fxL L m1).drop m))) w3 := by
    intro k
    rw [← htk.out]
    have hl : ((out.take m1).drop m).length = 1 := by rw [List.length_drop, List.length_take]; have := HM1.out; omega
    refine conv_part hl fun j hj => ?_
    rw [hl] at hj
    have : j = 0 := by omega
    subst this
    rw [Nat.add_zero, hcell m (by have := HM1.out; omega), List.getElem_drop, List.getElem_take]; rfl
  have d1 : (m1 : Int) ≤ (cap : Int) := by omega
  have hmc : m1 ≤ cap := by omega
  have d2 : (m : Int) ≤ (m1 : Int) := by omega
  have d3 : m1 - m = 1 := by have := HM1.out; omega
  have d4 : (m1 : Int) - (m : Int) = 1 := by have := HM1.out; omega
  obtain ⟨N, hN⟩ : ∃ N, N = out.length := ⟨_, rfl⟩
  rw [← hN] at hl1 hl2 hcap ⊢
  clear ho hf b3 hcell hN cb2 h1 h2 h4 h5
  go_wp2_with fail
  go_ret2
  exact ⟨rfl, HBA.out.trans (K3.out.mono (by omega))⟩

set_option maxRecDepth 20000 in
set_option maxHeartbeats 2000000 in
theorem isFixedStart_i (ga : Option Addr) (n c : Nat) (L : List ByteArray) (s : ByteArray) (m : Nat) (w : World) (h : RdSub w ga n c L) (hg : GrL L) (hm : m ≤ 400) (hs : s = St (fxL L m)) :
    Calls Try.prog 71 #[sbV ga n c, .string s] w fun e w' => e = .returned (.bool true) ∧ Below w.heap.size w w' := by
  have hsz : s.size = m := by rw [hs, St_size]; exact (fxL_fix hg m).2
  have hx1 : 1 ≤ m → s.extract 0 1 = St [letU 0] := fun h1 => by
    apply str_inj
    rw [ext_data, hs, St_data, St_data]
    obtain ⟨hf, hl⟩ := fxL_fix hg m
    cases hq : fxL L m with
    | nil => rw [hq] at hl; simp at hl; omega
    | cons d r => rw [hf.hd d r hq]; rfl
  have h4 := Lib.hid (fun W (hW : Below w.heap.size w W) => fixedPoint_i ga n c L m W (h.below hW) hg hm)
  rw [← hs] at h4
  unfold sbV at h4 ⊢
  have hba : Below w.heap.size w (w.alloc (.cells #[.slice ga n c] 67)) := (Below.refl _ _).alloc (Nat.le_refl _) _
  have cw := box_cell w (.slice ga n c) 67
  obtain ⟨wa, hwa⟩ : ∃ wa, wa = w.alloc (.cells #[.slice ga n c] 67) := ⟨_, rfl⟩
  have hszw : w.heap.size < wa.heap.size := by rw [hwa]; simp
  rw [← hwa] at cw hba
  have CW := Lib.hid (fun W (hW : Below wa.heap.size wa W) => show W.cell? ⟨w.heap.size, 0, none⟩ = some (.slice ga n c) by rw [hW.cell (p := ⟨w.heap.size, 0, none⟩) hszw]; exact cw)
  have HBA := Lib.hid hba
  have HWA := Lib.hid hwa
  by_cases h0 : m = 0
  · have hse : s.toList.isEmpty = true := (isEmpty_iff s).2 (by omega)
    have hse2 : s.toList = [] := by rw [Lib.toList_data]; exact List.eq_nil_of_length_eq_zero (by rw [← size_len]; omega)
    clear h hwa hba cw hg hs hsz hx1 h0
    go_enter Try.func71, Try.ntmps71
    go_wp2_with fail
    rw [← HWA.out]
    go_ret
    exact ⟨rfl, HBA.out⟩
  · have hse := isEmpty_no (s := s) (by omega)
    have hse2 : ¬ s.toList = [] := by intro e; rw [e] at hse; cases hse
    have hx := hx1 (by omega)
    have hkd : Hid (Below w.heap.size w wa.drew) := below_drewN HBA.out 1
    have q4 := Lib.hid (h4.out wa.drew hkd.out)
    have d1 : (1 : Int) ≤ (s.size : Int) := by omega
    have d2 : (s.toList == s.toList) = true := by simp
    rw [show (m : Int) = (s.size : Int) by omega, ← hx] at q4
    have hs1 : 1 ≤ s.size := by omega
    clear h hwa hba cw hg hs hsz hx1 h0 hx h4
    go_enter Try.func71, Try.ntmps71
    go_wp2_with fail
    rw [← HWA.out]
    go_upto_region 3 with fail
    go_cut [5, 6] from 9 to 17 (fun s5 s6 wx => s5 = .string s ∧ s6 = .bool true ∧ Below w.heap.size w wx)
    case first =>
      have cb := CW.out wa (Below.refl _ _)
      go_region_with (go_at_call 70; refine q4.out.mono ?_; rintro e w2 ⟨rfl, b2⟩)
      all_goals
        go_wp2_with fail
        go_meet
        case rel => exact ⟨rfl, rfl, hkd.out.trans (b2.mono hkd.out.size)⟩
    case rest =>
      obtain ⟨rfl, rfl, hbc⟩ := hcut
      go_wp2_with fail
      go_ret
      exact ⟨rfl, hbc⟩
set_option maxRecDepth 20000 in
set_option maxHeartbeats 2000000 in
theorem fixedFactors_i (ga : Option Addr) (n c : Nat) (L : List ByteArray) (m : Nat) (w : World) (h : RdSub w ga n c L) (hg : GrL L) (hm1 : 1 ≤ m) (hm : m ≤ 8) :
    Calls Try.prog 81 #[sbV ga n c, .string (St [letU 0]), .int .i64 (m : Int)] w (RetS (facW (St (fxL L 400)) m) w) := by
  have h4 := Lib.hid (fun W (hW : Below w.heap.size w W) => fixedPoint_i ga n c L 400 W (h.below hW) hg (by omega))
  have h3 := fun W => Lib.hid (within_c (m : Int) 1 8 W)
  rw [inB_iff.2 (show (1 : Int) ≤ (m : Int) ∧ (m : Int) ≤ 8 by omega)] at h3
  obtain ⟨s, hs⟩ : ∃ s, s = St (fxL L 400) := ⟨_, rfl⟩
  have hsz : s.size = 400 := by rw [hs, St_size]; exact (fxL_fix hg 400).2
  rw [← hs] at h4 ⊢
  have h5 := fun W => Lib.hid (factorsOf_c s m W (by omega) (by omega))
  unfold sbV at h4 ⊢
  have hba : Below w.heap.size w (w.alloc (.cells #[.slice ga n c] 67)) := (Below.refl _ _).alloc (Nat.le_refl _) _
  have cw := box_cell w (.slice ga n c) 67
  obtain ⟨wa, hwa⟩ : ∃ wa, wa = w.alloc (.cells #[.slice ga n c] 67) := ⟨_, rfl⟩
  have hszw : w.heap.size < wa.heap.size := by rw [hwa]; simp
  rw [← hwa] at cw hba
  have CW := Lib.hid (fun W (hW : Below wa.heap.size wa W) => show W.cell? ⟨w.heap.size, 0, none⟩ = some (.slice ga n c) by rw [hW.cell (p := ⟨w.heap.size, 0, none⟩) hszw]; exact cw)
  have HBA := Lib.hid hba
  have HWA := Lib.hid hwa
  obtain ⟨t, ht⟩ : ∃ t, t = St [letU 0] := ⟨_, rfl⟩
  rw [← ht] at h4 ⊢
  have HSZ := Lib.hid hsz
  clear h hwa hba cw hg hs hsz ht
  go_enter Try.func81, Try.ntmps81
  go_wp2_with fail
  rw [← HWA.out]
  refine (h4.out wa HBA.out).mono ?_
  rintro e w1 ⟨rfl, b1⟩
  have K1 := Lib.hid (HBA.out.trans (b1.mono HBA.out.size))
  clear b1
  go_wp2_with fail
  refine (h3 _).out.mono ?_
  rintro e w' ⟨rfl, rfl⟩
  go_wp2_with fail
  refine (h5 _).out.mono ?_
  rintro e w3 ⟨v, rfl, ho, b3⟩
  have K3 := Lib.hid (K1.out.trans (b3.mono K1.out.size))
  have HO := Lib.hid (own_baseS ho K1.out.size)
  clear ho b3
  go_wp2_with fail
  go_ret
  exact ⟨v, rfl, HO.out, K3.out⟩
set_option maxRecDepth 20000 in
set_option maxHeartbeats 2000000 in
theorem growingLetters_i (ga : Option Addr) (n c : Nat) (L : List ByteArray) (w : World) (h : RdSub w ga n c L) (hg : GrL L) :
    Calls Try.prog 78 #[sbV ga n c] w fun e w' => ∃ s : ByteArray, e = .returned (.string s) ∧ [letU 0] <+: s.data.toList ∧ s.size ≤ 4 ∧ Below w.heap.size w w' := by
  have hok := hg.toOkL
  have hn := h.1
  have h4 := hok.four
  have h0 := hok.one
  have hn4 : n ≤ 4 := by omega
  have hn1 : 1 ≤ n := by omega
  have h1 := Lib.hid (fun W (hW : Below w.heap.size w W) => substOk_i ga n c L W (h.below hW) hok)
  have h2 := Lib.hid (fun k (hk : k < n) W (hW : Below w.heap.size w W) => isGrowing_c ga n c L k W (h.below hW) hok hk)
  have h3 := Lib.hid (growB_a hg)
  unfold sbV at h1 h2 ⊢
  have hba : Below w.heap.size w (w.alloc (.cells #[.slice ga n c] 67)) := (Below.refl _ _).alloc (Nat.le_refl _) _
  have cw := box_cell w (.slice ga n c) 67
  obtain ⟨wa, hwa⟩ : ∃ wa, wa = w.alloc (.cells #[.slice ga n c] 67) := ⟨_, rfl⟩
  have hszw : w.heap.size < wa.heap.size := by rw [hwa]; simp
  rw [← hwa] at cw hba
  have CW := Lib.hid (fun W (hW : Below wa.heap.size wa W) => show W.cell? ⟨w.heap.size, 0, none⟩ = some (.slice ga n c) by rw [hW.cell (p := ⟨w.heap.size, 0, none⟩) hszw]; exact cw)
  have HBA := Lib.hid hba
  have HWA := Lib.hid hwa
  have hst : Hid ((0 = 0 ∧ (⟨#[]⟩ : ByteArray) = ⟨#[]⟩) ∨ [letU 0] <+: (⟨#[]⟩ : ByteArray).data.toList) := .inl ⟨rfl, rfl⟩
  clear h hwa hba cw hg hok hn h4 h0
  go_enter Try.func78, Try.ntmps78
  go_wp2_with fail
  rw [← HWA.out]
  refine (h1.out wa HBA.out).mono ?_
  rintro e w1 ⟨rfl, b1⟩
  have K1 := Lib.hid b1
  have cb := CW.out w1 b1
  clear b1
  go_wp2_with fail
  go_loopw [3, 12] (fun y z wr => ∃ (k : Nat) (t : ByteArray), z = .int .i64 (k : Int) ∧ k ≤ n ∧ y = .string t ∧ t.size ≤ k ∧ Hid ((k = 0 ∧ t = ⟨#[]⟩) ∨ [letU 0] <+: t.data.toList) ∧ Below wa.heap.size wa wr) (fun _ z _ => n - (intOf z).toNat)
  case atStart => exact ⟨0, _, rfl, by omega, rfl, by decide, .inl ⟨rfl, rfl⟩, K1.out⟩
  case round =>
    obtain ⟨k, t, rfl, hk, rfl, htz, ht, hbr⟩ := hrel
    have cbr := CW.out wr hbr
    by_cases hlt : k < n
    · have hle := letter_abcd k (by omega)
      have c1 : (k : Int) + 1 ≤ 4 := by omega
      have c2 : (k : Int) ≤ (k : Int) + 1 := by omega
      have c3 : (k : Int) < (n : Int) := by omega
      have hz1 : (St [letU k]).size = 1 := rfl
      have q2 := Lib.hid (h2.out k hlt wr (HBA.out.trans (hbr.mono (by omega))))
      have HBR := Lib.hid hbr
      have hsz2 : (t ++ St [letU k]).size = t.size + 1 := by rw [ByteArray.size_append, hz1]
      have hy : Hid ((t ++ St [letU k]).data.toList = t.data.toList ++ [letU k]) := by unfold Hid; rw [ByteArray.data_append, Array.toList_append]; rfl
      cases hgb : growB L k
      · have hk0 : Hid (k ≠ 0) := fun e => by rw [e, h3.out] at hgb; cases hgb
        have hnx : Hid ((k + 1 = 0 ∧ t = ⟨#[]⟩) ∨ [letU 0] <+: t.data.toList) := by
          rcases ht.out with ⟨h, _⟩ | h
          · exact absurd h hk0.out
          · exact .inr h
        rw [hgb] at q2
        clear hgb hsz2
        go_wp2_with fail
        refine q2.out.mono ?_
        rintro e w2 ⟨rfl, b2⟩
        have K2 := Lib.hid (HBR.out.trans (b2.mono HBR.out.size))
        clear b2
        go_wp2_with fail
        go_roundw
        case rel => exact ⟨k + 1, t, by go_num, by omega, rfl, by omega, hnx, K2.out⟩
        case measure => simp [intOf] <;> omega
      · have hnx : Hid ((k + 1 = 0 ∧ t ++ St [letU k] = ⟨#[]⟩) ∨ [letU 0] <+: (t ++ St [letU k]).data.toList) := by
          right
          rw [hy.out]
          rcases ht.out with ⟨h, h'⟩ | h
          · rw [h, h']; exact List.prefix_rfl
          · exact h.trans (List.prefix_append _ _)
        rw [hgb] at q2
        have htz2 : Hid ((t ++ St [letU k]).size ≤ k + 1) := by unfold Hid; omega
        clear hgb hsz2
        go_wp2_with fail
        refine q2.out.mono ?_
        rintro e w2 ⟨rfl, b2⟩
        have K2 := Lib.hid (HBR.out.trans (b2.mono HBR.out.size))
        clear b2
        go_wp2_with fail
        go_roundw
        case rel => exact ⟨k + 1, _, by go_num, by omega, rfl, htz2.out, hnx, K2.out⟩
        case measure => simp [intOf] <;> omega
    · obtain rfl : n = k := by omega
      have hfin : Hid ([letU 0] <+: t.data.toList) := by
        rcases ht.out with ⟨h, _⟩ | h
        · omega
        · exact h
      have c3 : decide ((n : Int) < (n : Int)) = false := decide_eq_false (by omega)
      have HBR := Lib.hid (HBA.out.trans (hbr.mono (by omega)))
      go_wp2_with fail
      go_ret
      exact ⟨t, rfl, hfin.out, by omega, HBR.out⟩
end Go.Proofs.Ytlmciomoimfajaa
