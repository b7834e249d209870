/- Contracts of fixed, FixedPoint, LetterAt, IsFixedStart, FixedFactors in the program, at the letter a. Conditions: a substitution for which a is growing, whose images can be read. -/
import Derived.Test.YtlmciomoimfajaaDoorX4
namespace Go.Proofs.YtlmciomoimfajaaDoor
open Go.RowKit
set_option linter.unusedVariables false

def lenV : Value → Nat
  | .slice _ n _ => n
  | _ => 0
theorem OwnM.base {w : World} {B B0 : Nat} {v : Value} {l : List UInt8} (h : OwnM w B v l) (hB : B0 ≤ B) : OwnM w B0 v l := by
  obtain ⟨g, cap, cur, fz, hv, hb, h1⟩ := h
  exact ⟨g, cap, cur, fz, hv, Nat.le_trans hB hb, h1⟩
theorem World.ownM_len {w : World} {B : Nat} {v : Value} {l : List UInt8} (h : OwnM w B v l) : lenV v = l.length := by
  obtain ⟨g, cap, cur, fz, rfl, _⟩ := h
  rfl
set_option maxRecDepth 20000 in
set_option maxHeartbeats 4000000 in
theorem fixed_c (ga : Option Addr) (n c : Nat) (L : List ByteArray) (m : Nat) (w : World) (h : RdSub w ga n c L) (hg : GrL L) (hm : m ≤ 20000) :
    Calls Tryd.prog 35 #[sbV ga n c, .string (St [letU 0]), .int .i64 (m : Int)] w fun e w' => ∃ v out, e = .returned v ∧ OwnM w' w.heap.size v out ∧ FixP L out ∧ m ≤ out.length ∧ out.length ≤ m + 8 ∧ Below w.heap.size w w' := by
  have hok := hg.toOkL
  have hIM := Lib.hid (fun k (hk : inL L k) W (hW : Below w.heap.size w W) => image_c ga n c L k W (h.below hW) hok hk)
  have hBD := Lib.hid (fun k (hk : inL L k) => imL_bd hok hk)
  have hst := Lib.hid (fxI_start hg)
  have hstep := Lib.hid (fun out i (hI : FxI L out i) k (hk : out[i]? = some k) => fxI_step hg hI hk)
  have ha := Lib.hid (in_a hok)
  unfold sbV at hIM ⊢
  obtain ⟨t, ht⟩ : ∃ t, t = St [letU 0] := ⟨_, rfl⟩
  have htz : t.size = 1 := by rw [ht, St_size]; rfl
  have ht0 : (t[0]'(by omega)).toNat = 97 := by simp [ht, St]; rfl
  rw [← ht]
  have hba : Below w.heap.size w (w.alloc (.cells #[.slice ga n c] 34)) := (Below.refl _ _).alloc (Nat.le_refl _) _
  have cw := box_cell w (.slice ga n c) 34
  obtain ⟨wa, hwa⟩ : ∃ wa, wa = w.alloc (.cells #[.slice ga n c] 34) := ⟨_, rfl⟩
  have hszw : w.heap.size < wa.heap.size := by rw [hwa]; simp
  rw [← hwa] at cw hba
  have CW := Lib.hid (fun W (hW : Below wa.heap.size wa W) => show W.cell? ⟨w.heap.size, 0, none⟩ = some (.slice ga n c) by rw [hW.cell (p := ⟨w.heap.size, 0, none⟩) hszw]; exact cw)
  have HBA := Lib.hid hba
  have HWA := Lib.hid hwa
  have h00 : 0 < t.size := by omega
  have q2 := Lib.hid (hIM.out 97 ha.out wa.drew (below_drewN HBA.out 1))
  have hA := hBD.out 97 ha.out
  obtain ⟨u, hu⟩ : ∃ u, u = St (imL L 97) := ⟨_, rfl⟩
  have hul : u.data.toList = imL L 97 := by rw [hu, St_data]
  have huz : u.size ≤ 8 := by rw [hu, St_size]; exact hA.2.1
  rw [← hu] at q2
  rw [show ((97 : UInt8).toNat : Int) = ((t[0]'(by omega)).toNat : Int) by rw [ht0]; rfl] at q2
  have hcv := run_conv (wa.drew.alloc (.cells #[.slice ga n c] 34)) u
  have HUL := Lib.hid hul
  clear h hok ht ht0 hwa hba hu hul hA
  go_enter Tryd.func35, Tryd.ntmps35
  go_wp2_with fail
  rw [← HWA.out]
  go_upto_region 1 with fail
  have hbx : Hid (Below wa.heap.size wa (wa.drew.alloc (.cells #[.slice ga n c] 34))) := (show Below wa.heap.size wa wa.drew from below_drewN (Below.refl _ _) 1).alloc (Nat.le_refl _) _
  obtain ⟨wb, hwb⟩ : ∃ wb, wb = wa.drew.alloc (.cells #[.slice ga n c] 34) := ⟨_, rfl⟩
  rw [← hwb] at hcv hbx q2
  go_cut [7] from 9 to 13 (fun s7 wx => Hid (OwnM wx wa.heap.size s7 (imL L 97)) ∧ Below wa.heap.size wa wx)
  case first =>
    have hown : Hid (OwnM (Lib.bytesWorld wb 5 u) wa.heap.size (.slice (some ⟨wb.heap.size, 0, none⟩) u.size (grownCap wb u.size 0 5)) (imL L 97)) := by
      have := ownM_conv wb wa.heap.size u hbx.out.size (by omega)
      rw [HUL.out] at this; exact this
    have HWB := Lib.hid hwb
    have hbc : Hid (Below wa.heap.size wa (Lib.bytesWorld wb 5 u)) := below_conv u hbx.out hbx.out.size
    clear hwb
    go_region_with (go_at_call 48; refine q2.out.mono ?_; rintro e w2 ⟨rfl, rfl⟩)
    all_goals
      go_wp2_with fail
      go_meet
      case rel => exact ⟨hown, hbc.out⟩
  case rest =>
    obtain ⟨hown0, hbc⟩ := hcut
    have hlen0 : (imL L 97).length ≤ m + 8 := by rw [← HUL.out, ← size_len]; omega
    clear q2 hcv hwb hbx
    go_wp2_with fail
    go_loopw [7, 8] (fun y z wr => ∃ (i : Nat) (out : List UInt8) (v : Value), v = y ∧ z = .int .i64 (i : Int) ∧ i ≤ 40000 ∧ Hid (OwnM wr wa.heap.size v out) ∧ Hid (FxI L out i) ∧ out.length ≤ m + 8 ∧ Below wa.heap.size wa wr) (fun y _ _ => m - lenV y)
    case atStart => exact ⟨1, _, _, rfl, rfl, by omega, hown0, hst, hlen0, hbc⟩
    case round =>
      obtain ⟨i, out, v, rfl, rfl, hi4, hown, hfx, hol, hbr⟩ := hrel
      obtain ⟨g, cap, hv, hcap, hcell⟩ := hown.out.read
      subst hv
      have hil := hfx.out.lt
      obtain ⟨N, hN⟩ : ∃ N, N = out.length := ⟨_, rfl⟩
      have HN := Lib.hid hN
      by_cases hlt : N < m
      · obtain ⟨k, hk⟩ : ∃ k, out[i]? = some k := ⟨_, List.getElem?_eq_getElem hil⟩
        have hkin : inL L k := hfx.out.fx.let_ k (List.mem_of_getElem? hk)
        have hci := hcell i hil
        rw [show out[i] = k from (List.getElem?_eq_some_iff.1 hk).2] at hci
        have hb8 := hBD.out k hkin
        have q2 := Lib.hid (hIM.out k hkin wr.drew (below_drewN (HBA.out.trans (hbr.mono (by omega))) 1))
        obtain ⟨u2, hu2⟩ : ∃ u2, u2 = St (imL L k) := ⟨_, rfl⟩
        have hu2l : u2.data.toList = imL L k := by rw [hu2, St_data]
        have hu2z : u2.size = (imL L k).length := by rw [hu2, St_size]
        rw [← hu2] at q2
        have hnx := Lib.hid (hstep.out out i hfx.out k hk)
        rw [← hu2l] at hnx
        have hnl : (out ++ u2.data.toList).length = N + u2.size := by rw [List.length_append, ← hN, ← size_len]
        have cb := CW.out wr hbr
        have hbx : Hid (Below wa.heap.size wa (wr.drew.alloc (.cells #[.slice ga n c] 34))) := (show Below wa.heap.size wa wr.drew from below_drewN hbr 1).alloc hbr.size _
        have hszr : wa.heap.size ≤ (wr.drew.alloc (.cells #[.slice ga n c] 34)).heap.size := hbx.out.size
        have hownx : Hid (OwnM (wr.drew.alloc (.cells #[.slice ga n c] 34)) wa.heap.size (.slice (some ⟨g, 0, none⟩) out.length cap) out) := hown.out.drew.alloc _
        have b1 : (N : Int) < (m : Int) := by omega
        have b2 : (i : Int) < (N : Int) := by omega
        have b3 : i < N := by omega
        have hzb : u2.size ≤ 8 := by omega
        have hz1 : 1 ≤ u2.size := by omega
        have HNL := Lib.hid hnl
        rw [← hN] at hownx hcap ⊢
        clear hk hkin hcell hb8 hu2 hu2l hu2z hN hil hnl hown
        go_wp2_with fail
        go_region_law (first | (refine stepM_str (w0 := wr.drew.alloc (.cells #[.slice ga n c] 34)) rfl (.tmp 20) (.tmp 26) rfl wa.heap.size (.slice (some ⟨g, 0, none⟩) N cap) out (by first | rfl | simp [Act.eval]) (by exact hownx.out) u2 (by first | rfl | simp [Act.eval]) (by rw [← HN.out]; omega) hszr ?_; intro v' w' hown' hg') | (go_simp; go_at_call 48; refine q2.out.mono ?_; rintro e w2 ⟨rfl, rfl⟩))
        all_goals
          go_wp2_with fail
          go_roundw
          case rel => exact ⟨i + 1, out ++ u2.data.toList, v', rfl, by go_num, by omega, hown', hnx, by rw [HNL.out]; omega, below_appM hbx.out hownx.out hg' hszr⟩
          case measure =>
            have := World.ownM_len hown'
            rw [HNL.out] at this
            rw [this]; show m - (N + u2.size) < m - N; omega
      · have b1 : decide ((N : Int) < (m : Int)) = false := decide_eq_false (by omega)
        have hbw := Lib.hid (HBA.out.trans (hbr.mono (by omega)))
        have hownx : Hid (OwnM wr w.heap.size (.slice (some ⟨g, 0, none⟩) N cap) out) := by unfold Hid; rw [hN]; exact hown.out.base (by omega)
        have hl1 : m ≤ out.length := by omega
        have HL1 := Lib.hid hl1
        have HOL := Lib.hid hol
        have HN2 : Hid (out.length = N) := hN.symm
        rw [← hN] at hol hil ⊢
        clear hown hcell hN hl1
        go_wp2_with fail
        go_ret
        exact ⟨_, out, rfl, hownx.out, hfx.out.fx, HL1.out, HOL.out, hbw.out⟩

theorem fixP_St {L : List ByteArray} (h : GrL L) {out : List UInt8} (hf : FixP L out) {n : Nat} (hn : n ≤ out.length) : out.take n = fxL L n := fxL_is h hf hn
set_option maxRecDepth 20000 in
set_option maxHeartbeats 2000000 in
theorem fixedPoint_i (ga : Option Addr) (n c : Nat) (L : List ByteArray) (m : Nat) (w : World) (h : RdSub w ga n c L) (hg : GrL L) (hm : m ≤ 400) :
    Calls Tryd.prog 17 #[sbV ga n c, .string (St [letU 0]), .int .i64 (m : Int)] w fun e w' => e = .returned (.tuple #[.string (St (fxL L m)), .bool true]) ∧ Below w.heap.size w w' := by
  have hok := hg.toOkL
  have hn := h.1
  have h0 := hok.one
  have h1 := Lib.hid (fun W (hW : Below w.heap.size w W) => substOk_i ga n c L W (h.below hW) hok)
  have h2 := Lib.hid (fun W (hW : Below w.heap.size w W) => isGrowing_c ga n c L 0 W (h.below hW) hok (by omega))
  rw [growB_a hg] at h2
  have h3 := fun W => Lib.hid (within_c (m : Int) 0 400 W)
  rw [inB_iff.2 (show (0 : Int) ≤ (m : Int) ∧ (m : Int) ≤ 400 by omega)] at h3
  have h4 := Lib.hid (fun W (hW : Below w.heap.size w W) => fixed_c ga n c L m W (h.below hW) hg (by omega))
  have h5 := Lib.hid (fun out (ho : FixP L out) (hl : m ≤ out.length) => fixP_St hg ho hl)
  unfold sbV at h1 h2 h4 ⊢
  have hba : Below w.heap.size w (w.alloc (.cells #[.slice ga n c] 34)) := (Below.refl _ _).alloc (Nat.le_refl _) _
  have cw := box_cell w (.slice ga n c) 34
  obtain ⟨wa, hwa⟩ : ∃ wa, wa = w.alloc (.cells #[.slice ga n c] 34) := ⟨_, rfl⟩
  have hszw : w.heap.size < wa.heap.size := by rw [hwa]; simp
  rw [← hwa] at cw hba
  have CW := Lib.hid (fun W (hW : Below wa.heap.size wa W) => show W.cell? ⟨w.heap.size, 0, none⟩ = some (.slice ga n c) by rw [hW.cell (p := ⟨w.heap.size, 0, none⟩) hszw]; exact cw)
  have HBA := Lib.hid hba
  have HWA := Lib.hid hwa
  obtain ⟨t, ht⟩ : ∃ t, t = St [letU 0] := ⟨_, rfl⟩
  rw [← ht] at h2 h4 ⊢
  clear h hok hwa hba cw hn h0 ht hg
  go_enter Tryd.func17, Tryd.ntmps17
  go_wp2_with fail
  rw [← HWA.out]
  refine (h1.out wa HBA.out).mono ?_
  rintro e w1 ⟨rfl, b1⟩
  have K1 := Lib.hid b1
  have cb := CW.out w1 b1
  clear b1
  go_wp2_with fail
  refine (h2.out w1 (HBA.out.trans (K1.out.mono (by omega)))).mono ?_
  rintro e w2 ⟨rfl, b2⟩
  have K2 := Lib.hid (K1.out.trans (b2.mono K1.out.size))
  have cb2 := CW.out w2 K2.out
  clear b2 cb
  go_wp2_with fail
  refine (h3 _).out.mono ?_
  rintro e w' ⟨rfl, rfl⟩
  go_wp2_with fail
  refine (h4.out w2 (HBA.out.trans (K2.out.mono (by omega)))).mono ?_
  rintro e w3 ⟨v, out, rfl, ho, hf, hl1, hl2, b3⟩
  have K3 := Lib.hid (K2.out.trans (b3.mono K2.out.size))
  have htk := Lib.hid (h5.out out hf hl1)
  obtain ⟨g, cap, hv, hcap, hcell⟩ := ho.read
  subst hv
  have hcv : (convert 22 9 (.slice (some ⟨g, 0, none⟩) m cap)).run Tryd.prog w3 = .ok (.string (St (fxL L m))) w3 := by
    rw [← htk.out]
    refine conv_part (by rw [List.length_take]; omega) fun j hj => ?_
    rw [List.length_take] at hj
    rw [Nat.zero_add, hcell j (by omega), List.getElem_take]
  have d1 : (m : Int) ≤ (cap : Int) := by omega
  have hmc : m ≤ cap := by omega
  have HL2 := Lib.hid hl1
  obtain ⟨N, hN⟩ : ∃ N, N = out.length := ⟨_, rfl⟩
  rw [← hN] at hl1 hl2 hcap ⊢
  clear ho hf b3 hcell hN cb2 h1 h2 h4 h5
  go_wp2_with fail
  go_ret2
  exact ⟨rfl, HBA.out.trans (K3.out.mono (by omega))⟩
end Go.Proofs.YtlmciomoimfajaaDoor
