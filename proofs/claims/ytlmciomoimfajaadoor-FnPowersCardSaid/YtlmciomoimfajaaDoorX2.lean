/- Contracts of the methods of a substitution in the program: image, hasImages, SubstOk, hasImage, isGrowing, apply, ApplySubst, IterateSubst. Conditions: a valid substitution whose images can be read. -/
import Derived.Test.YtlmciomoimfajaaDoorX1
import Derived.Test.YtlmciomoimfajaaDoorM2
import Derived.Test.YtlmciomoimfajaaDoorB1
import Derived.Test.YtlmciomoimfajaaDoorR1
import Derived.Test.YtlmciomoimfajaaDoorB4
import Derived.Deep.Cut
import Derived.Deep.CutRange
import Derived.Deep.RegionWith
import Derived.Deep.QuietTactic
import Derived.BigQuiet
namespace Go.Proofs.YtlmciomoimfajaaDoor
open Go.RowKit
set_option linter.unusedVariables false

/-- a substitution's value: its images -/
def sbV (ga : Option Addr) (n c : Nat) : Value := .agg #[.slice ga n c]
def RdSub (w : World) (ga : Option Addr) (n c : Nat) (L : List ByteArray) : Prop := n = L.length ∧ RdS w (.slice ga n c) L
theorem RdSub.below {w w' : World} {ga : Option Addr} {n c : Nat} {L : List ByteArray} (h : RdSub w ga n c L) (hb : Below w.heap.size w w') : RdSub w' ga n c L := ⟨h.1, h.2.below hb⟩
theorem RdSub.alloc {w : World} {ga : Option Addr} {n c : Nat} {L : List ByteArray} (h : RdSub w ga n c L) (o : Obj) : RdSub (w.alloc o) ga n c L := h.below ((Below.refl _ _).alloc (Nat.le_refl _) _)
theorem RdSub.drawn {w : World} {ga : Option Addr} {n c : Nat} {L : List ByteArray} (h : RdSub w ga n c L) (d : Nat) : RdSub (w.drewN d) ga n c L := h.below (below_drewN (Below.refl _ _) d)
theorem RdSub.get {w : World} {ga : Option Addr} {n c : Nat} {L : List ByteArray} (h : RdSub w ga n c L) {k : Nat} {x : ByteArray} (hx : L[k]? = some x) : ∃ g, ga = some ⟨g, 0, none⟩ ∧ n ≤ c ∧ w.cell? ⟨g, k, none⟩ = some (.string x) := by
  obtain ⟨g, h1, h2, h3⟩ := rdS_cell h.2 hx
  exact ⟨g, h1, h2, h3 k x hx⟩
theorem box_cell (w : World) (v : Value) (t : TypeId) : (w.alloc (.cells #[v] t)).cell? ⟨w.heap.size, 0, none⟩ = some v := by
  have := one_new w v t 0 v rfl
  exact this
theorem inL_idx {L : List ByteArray} {c : UInt8} (hc : inL L c) : ∃ j, c.toNat = j + 97 ∧ j < L.length := ⟨c.toNat - 97, by have := hc.1; omega, by have := hc.1; have := hc.2; omega⟩

set_option maxHeartbeats 1000000 in
theorem image_c (ga : Option Addr) (n c : Nat) (L : List ByteArray) (k : UInt8) (w : World) (h : RdSub w ga n c L) (hok : OkL L) (hk : inL L k) :
    Calls Tryd.prog 48 #[sbV ga n c, .int .u8 (k.toNat : Int)] w fun e w' => e = .returned (.string (St (imL L k))) ∧ w' = w.alloc (.cells #[.slice ga n c] 34) := by
  have h4 := hok.four
  obtain ⟨j, hj, hjl⟩ := inL_idx hk
  obtain ⟨x, hx, hxm, hxe⟩ := imL_at hk
  rw [show k.toNat - 97 = j by omega] at hx
  obtain ⟨g, rfl, hcap, cx⟩ := h.get hx
  have hn := h.1
  have hr : Hid (St (imL L k) = x) := by unfold Hid; rw [hxe, St_of]
  have e1 : (k.toNat : Int) - 97 = (j : Int) := by omega
  have e2 : IntKind.u8.wrap (j : Int) = (j : Int) := by unfold IntKind.wrap; simp [IntKind.signed, IntKind.bits]; omega
  have e3 : (j : Int) < (n : Int) := by omega
  have e4 : j < n := by omega
  have hlt := World.block_lt_of_cell? w _ cx
  have cy : (w.alloc (.cells #[.slice (some ⟨g, 0, none⟩) n c] 34)).cell? ⟨g, j, none⟩ = some (.string x) := by rw [← cx]; unfold World.cell?; rw [Below.heap_alloc w _ g hlt]
  unfold sbV
  clear hj hx h hn hk hxe
  go_enter Tryd.func48, Tryd.ntmps48
  go_wp2_with fail
  go_ret
  exact ⟨ret_str hr.out.symm, rfl⟩
set_option maxHeartbeats 1000000 in
theorem hasImages_c (ga : Option Addr) (n c : Nat) (L : List ByteArray) (s : ByteArray) (w : World) (h : RdSub w ga n c L) (hok : OkL L) (hs : ∀ x ∈ s.data.toList, inL L x) (hw : wordL s.data.toList = true) :
    Calls Tryd.prog 46 #[sbV ga n c, .string s] w fun e w' => e = .returned (.bool true) ∧ Below w.heap.size w w' := by
  have h4 := hok.four
  have hs4 := wordL_size hw
  have hn := h.1
  have hn4 : n ≤ 4 := by omega
  have h1 := fun W => Lib.hid (isWord_c s W (by unfold maxLen; omega))
  rw [hw] at h1
  have HI : Hid (∀ k (hk : k < s.size), ∃ j, s[k].toNat = j + 97 ∧ j < n) := fun k hk => by
    obtain ⟨j, h1, h2⟩ := inL_idx (hs s[k] (List.mem_of_getElem (i := k) (h := by simpa using hk) rfl))
    exact ⟨j, h1, by omega⟩
  unfold sbV
  clear h hw hok hn hs
  go_enter Tryd.func46, Tryd.ntmps46
  go_wp2_with fail
  have cw := Lib.hid (box_cell w (.slice ga n c) 34)
  go_loopw [8] (fun z wr => ∃ k d : Nat, z = .int .i64 (k : Int) ∧ k ≤ s.size ∧ wr = (w.alloc (.cells #[.slice ga n c] 34)).drewN d) (fun z _ => s.size - (intOf z).toNat)
  case atStart => exact ⟨0, 0, rfl, by omega, rfl⟩
  case round =>
    obtain ⟨k, d, rfl, hk, rfl⟩ := hrel
    by_cases hlt : k < s.size
    · obtain ⟨j, hj, hjn⟩ := HI.out k hlt
      have hji : ((s[k].toNat : Nat) : Int) - 97 = (j : Int) := by omega
      have hjw : IntKind.i64.wrap (j : Int) = (j : Int) := IntWalk.i64_in _ (by omega)
      have b1 : decide ((n : Int) ≤ (j : Int)) = false := decide_eq_false (by omega)
      have b2 : decide (n ≤ j) = false := decide_eq_false (by omega)
      have b3 : (k : Int) < (s.size : Int) := by omega
      obtain ⟨wo, hwo⟩ : ∃ wo, wo = (w.alloc (.cells #[.slice ga n c] 34)).drewN d := ⟨_, rfl⟩
      have cb : wo.cell? ⟨w.heap.size, 0, none⟩ = some (.slice ga n c) := by rw [hwo]; exact cw.out
      have HWO := Lib.hid hwo
      rw [← hwo]
      clear hj hwo
      go_wp2_with fail
      go_quiet (fail)
      go_wp2_with fail
      go_roundw
      case rel => exact ⟨k + 1, _, by go_num, by omega, by rw [HWO.out, World.drewN_drewN]⟩
      case measure => simp [intOf] <;> omega
    · obtain rfl : k = s.size := by omega
      have b1 : decide ((s.size : Int) < (s.size : Int)) = false := decide_eq_false (by omega)
      go_wp2_with fail
      refine (h1 _).out.mono ?_
      rintro e w' ⟨rfl, rfl⟩
      go_wp2_with fail
      go_ret
      exact ⟨rfl, below_drewN ((Below.refl _ _).alloc (Nat.le_refl _) _) d⟩
theorem okL_word {L : List ByteArray} (h : OkL L) {s : ByteArray} (hs : ∀ c ∈ s.data.toList, inL L c) (hz : s.size ≤ 400) : wordL s.data.toList = true :=
  wordL_mk (fun c hc => inL_abcd h (hs c hc)) (by rw [← size_len]; exact hz)
set_option maxHeartbeats 1000000 in
theorem substOk_i (ga : Option Addr) (n c : Nat) (L : List ByteArray) (w : World) (h : RdSub w ga n c L) (hok : OkL L) :
    Calls Tryd.prog 32 #[sbV ga n c] w fun e w' => e = .returned (.bool true) ∧ Below w.heap.size w w' := by
  have h4 := hok.four
  have h0 := hok.one
  have hn := h.1
  have hn4 : n ≤ 4 := by omega
  have hn1 : 1 ≤ n := by omega
  have HR := Lib.hid (fun W (hW : Below w.heap.size w W) => h.below hW)
  have hc1 := fun x W => Lib.hid (within_c ((x : Nat) : Int) 1 8 W)
  have hc2 := fun W => Lib.hid (within_c (n : Int) 1 4 W)
  rw [inB_iff.2 (show (1 : Int) ≤ (n : Int) ∧ (n : Int) ≤ 4 by omega)] at hc2
  have hIM := Lib.hid (fun x (hx : x ∈ L) W (hW : Below w.heap.size w W) => hasImages_c ga n c L x W (h.below hW) hok (hok.let_ x hx) (okL_word hok (hok.let_ x hx) (by have := (hok.sz x hx).2; omega)))
  have hSZ := Lib.hid hok.sz
  have HN := Lib.hid hn
  unfold sbV at hIM ⊢
  clear h hok hn
  go_enter Tryd.func32, Tryd.ntmps32
  go_wp2_with fail
  have cw := box_cell w (.slice ga n c) 34
  obtain ⟨wa, hwa⟩ : ∃ wa, wa = w.alloc (.cells #[.slice ga n c] 34) := ⟨_, rfl⟩
  have hba : Hid (Below w.heap.size w wa) := by rw [hwa]; exact (Below.refl _ _).alloc (Nat.le_refl _) _
  have hsz : w.heap.size < wa.heap.size := by rw [hwa]; simp
  rw [← hwa] at cw ⊢
  have CW := Lib.hid (fun W (hW : Below wa.heap.size wa W) => show W.cell? ⟨w.heap.size, 0, none⟩ = some (.slice ga n c) by rw [hW.cell (p := ⟨w.heap.size, 0, none⟩) hsz]; exact cw)
  clear hwa cw
  go_loopw [8] (fun z wr => ∃ k : Nat, z = .int .i64 (k : Int) ∧ k ≤ n ∧ Below wa.heap.size wa wr) (fun z _ => n - (intOf z).toNat)
  case atStart => exact ⟨0, rfl, by omega, Below.refl _ _⟩
  case round =>
    obtain ⟨k, rfl, hk, hbr⟩ := hrel
    have hbw : Below w.heap.size w wr := hba.out.trans (hbr.mono (by omega))
    have cb := CW.out wr hbr
    by_cases hlt : k < n
    · obtain ⟨x, hx⟩ : ∃ x, L[k]? = some x := ⟨_, List.getElem?_eq_getElem (by rw [← HN.out]; exact hlt)⟩
      obtain ⟨g, rfl, hcap, cx⟩ := (HR.out wr hbw).get hx
      have hxm := List.mem_of_getElem? hx
      have hz := hSZ.out x hxm
      have q1 := hc1 x.size
      rw [inB_iff.2 (show (1 : Int) ≤ ((x.size : Nat) : Int) ∧ ((x.size : Nat) : Int) ≤ 8 by omega)] at q1
      have q2 := Lib.hid (hIM.out x hxm wr hbw)
      have b1 : (k : Int) < (n : Int) := by omega
      have HBR := Lib.hid hbr
      clear hx hxm hc1
      go_wp2_with fail
      refine (q1 _).out.mono ?_
      rintro e w' ⟨rfl, rfl⟩
      go_wp2_with fail
      refine q2.out.mono ?_
      rintro e w2 ⟨rfl, b2⟩
      have K2 := Lib.hid (HBR.out.trans (b2.mono HBR.out.size))
      go_wp2_with fail
      go_roundw
      case rel => exact ⟨k + 1, by go_num, by omega, K2.out⟩
      case measure => simp [intOf] <;> omega
    · obtain rfl : n = k := by omega
      have b1 : decide ((n : Int) < (n : Int)) = false := decide_eq_false (by omega)
      have HBW := Lib.hid hbw
      go_wp2_with fail
      refine (hc2 _).out.mono ?_
      rintro e w' ⟨rfl, rfl⟩
      go_wp2_with fail
      go_ret
      exact ⟨rfl, HBW.out⟩

theorem isLetter_c (k : Nat) (w : World) (hk : k < 4) :
    Calls Tryd.prog 63 #[.string (St [letU k])] w fun e w' => e = .returned (.bool true) ∧ w = w' := by
  have h1 := fun W => Lib.hid (isWord_c (St [letU k]) W (by unfold maxLen; rw [St_size]; simp))
  rw [show wordL (St [letU k]).data.toList = true by rw [St_data]; rcases (show k = 0 ∨ k = 1 ∨ k = 2 ∨ k = 3 by omega) with rfl | rfl | rfl | rfl <;> decide] at h1
  have hz : (St [letU k]).size = 1 := by rw [St_size]; rfl
  go_enter Tryd.func63, Tryd.ntmps63
  go_wp2_with fail
  refine (h1 _).out.mono ?_
  rintro e w' ⟨rfl, rfl⟩
  go_wp2_with fail
  go_ret
  exact ⟨rfl, rfl⟩
theorem letU_nat {k : Nat} (hk : k < 4) : (letU k).toNat = k + 97 := by
  rcases (show k = 0 ∨ k = 1 ∨ k = 2 ∨ k = 3 by omega) with rfl | rfl | rfl | rfl <;> rfl
theorem letU_inL {L : List ByteArray} {k : Nat} (h : OkL L) (hk : k < L.length) : inL L (letU k) := by
  have := letU_nat (k := k) (by have := h.four; omega)
  exact ⟨by omega, by omega⟩
set_option maxRecDepth 20000 in
theorem hasImage_c (ga : Option Addr) (n c : Nat) (L : List ByteArray) (k : Nat) (w : World) (h : RdSub w ga n c L) (hok : OkL L) (hk : k < n) :
    Calls Tryd.prog 47 #[sbV ga n c, .string (St [letU k])] w fun e w' => e = .returned (.bool true) ∧ Below w.heap.size w w' := by
  have hn := h.1
  have h4 := hok.four
  have hin : inL L (letU k) := letU_inL hok (by omega)
  have h1 := fun W => Lib.hid (isLetter_c k W (by omega))
  have hb : Below w.heap.size w (w.alloc (.cells #[.slice ga n c] 34)) := (Below.refl _ _).alloc (Nat.le_refl _) _
  have h2 := Lib.hid (fun W (hW : Below w.heap.size w W) => hasImages_c ga n c L (St [letU k]) W (h.below hW) hok (fun x hx => by rw [St_data, List.mem_singleton] at hx; rw [hx]; exact hin) (wordL_mk (fun x hx => by rw [St_data, List.mem_singleton] at hx; rw [hx]; exact inL_abcd hok hin) (by rw [St_data]; simp)))
  have HB := Lib.hid hb
  unfold sbV at h2 ⊢
  have hk4 : k < 4 := by omega
  clear h hok hin hb hn hk
  go_enter Tryd.func47, Tryd.ntmps47
  go_wp2_with fail
  refine (h1 _).out.mono ?_
  rintro e w' ⟨rfl, rfl⟩
  go_wp2_with fail
  obtain ⟨wa, hwa⟩ : ∃ wa, wa = w.alloc (.cells #[.slice ga n c] 34) := ⟨_, rfl⟩
  rw [← hwa] at HB ⊢
  clear hwa
  refine (h2.out wa HB.out).mono ?_
  rintro e w2 ⟨rfl, b2⟩
  have K2 := Lib.hid (HB.out.trans (b2.mono HB.out.size))
  go_wp2_with fail
  go_ret
  exact ⟨rfl, K2.out⟩

/-- is a letter growing -/
def growB (L : List ByteArray) (k : Nat) : Bool := decide (1 < (imL L (letU k)).length) && decide ((imL L (letU k)).head? = some (letU k))
theorem growB_a {L : List ByteArray} (h : GrL L) : growB L 0 = true := by
  obtain ⟨r, e, h1⟩ := h.grow
  unfold growB
  rw [show letU 0 = 97 from rfl, e]
  simp; omega
set_option maxHeartbeats 2000000 in
theorem isGrowing_c (ga : Option Addr) (n c : Nat) (L : List ByteArray) (k : Nat) (w : World) (h : RdSub w ga n c L) (hok : OkL L) (hk : k < n) :
    Calls Tryd.prog 33 #[sbV ga n c, .string (St [letU k])] w fun e w' => e = .returned (.bool (growB L k)) ∧ Below w.heap.size w w' := by
  have hn := h.1
  have h4 := hok.four
  have hin : inL L (letU k) := letU_inL hok (by omega)
  have h1 := Lib.hid (fun W (hW : Below w.heap.size w W) => hasImage_c ga n c L k W (h.below hW) hok hk)
  have h2 := Lib.hid (fun W (hW : Below w.heap.size w W) => image_c ga n c L (letU k) W (h.below hW) hok hin)
  have hr : Hid (growB L k = (decide (1 < (imL L (letU k)).length) && decide ((imL L (letU k)).head? = some (letU k)))) := rfl
  obtain ⟨x, hx⟩ : ∃ x, x = St (imL L (letU k)) := ⟨_, rfl⟩
  have hxl : (imL L (letU k)) = x.data.toList := by rw [hx, St_data]
  have hbd := imL_bd hok hin
  rw [hxl] at hr hbd
  have hxz : 1 ≤ x.size ∧ x.size ≤ 8 := by rw [size_len]; exact ⟨hbd.1, hbd.2.1⟩
  have hsz : x.data.toList.length = x.size := (size_len x).symm
  rw [hsz] at hr
  have h0 : 0 < x.size := by omega
  have hhd : Hid (x.data.toList.head? = some x[0]) := by
    have := get_some x 0 h0
    unfold Hid; rw [← this]; cases x.data.toList <;> rfl
  rw [← hx] at h2
  obtain ⟨t, ht⟩ : ∃ t, t = St [letU k] := ⟨_, rfl⟩
  have htz : t.size = 1 := by rw [ht, St_size]; rfl
  have ht0 : t[0]'(by omega) = letU k := by simp [ht, St]; rfl
  rw [← ht] at h1 ⊢
  have hlt := letU_nat (k := k) (by omega)
  have HT0 := Lib.hid ht0
  unfold sbV at h1 h2 ⊢
  have hba : Below w.heap.size w (w.alloc (.cells #[.slice ga n c] 34)) := (Below.refl _ _).alloc (Nat.le_refl _) _
  have cw := box_cell w (.slice ga n c) 34
  obtain ⟨wa, hwa⟩ : ∃ wa, wa = w.alloc (.cells #[.slice ga n c] 34) := ⟨_, rfl⟩
  have hszw : w.heap.size < wa.heap.size := by rw [hwa]; simp
  rw [← hwa] at cw hba
  have CW := Lib.hid (fun W (hW : Below wa.heap.size wa W) => show W.cell? ⟨w.heap.size, 0, none⟩ = some (.slice ga n c) by rw [hW.cell (p := ⟨w.heap.size, 0, none⟩) hszw]; exact cw)
  have HBA := Lib.hid hba
  have HWA := Lib.hid hwa
  clear h hok hin hn hk hx hxl hbd hsz ht hwa hba cw ht0
  go_enter Tryd.func33, Tryd.ntmps33
  go_wp2_with fail
  rw [← HWA.out]
  refine (h1.out wa HBA.out).mono ?_
  rintro e w1 ⟨rfl, b1⟩
  have K1 := Lib.hid (HBA.out.trans (b1.mono HBA.out.size))
  have cb := CW.out w1 b1
  have K1d : Hid (Below w.heap.size w w1.drew) := below_drewN K1.out 1
  have h00 : 0 < t.size := by omega
  have q2 := Lib.hid (h2.out w1.drew K1d.out)
  rw [← HT0.out] at q2
  have hgt : decide (1 < x.size) = growB L k ∨ decide (1 < x.size) = true := by
    cases g : decide (1 < x.size)
    · exact .inl (by rw [hr.out, g]; rfl)
    · exact .inr rfl
  clear h1 h2 b1 CW
  go_wp2_with fail
  go_upto_region 3 with fail
  go_cut [5, 13] from 10 to 13 (fun s5 s13 wx => s5 = .string x ∧ Below w.heap.size w wx)
  case first =>
    go_region_with (go_at_call 48; refine q2.out.mono ?_; rintro e w2 ⟨rfl, rfl⟩)
    all_goals
      go_wp2_with fail
      go_meet
      case rel => exact ⟨rfl, K1d.out.alloc (Nat.le_trans K1d.out.size (Nat.le_refl _)) _⟩
  case rest =>
    obtain ⟨rfl, hbc⟩ := hcut
    have K2 := Lib.hid hbc
    clear hbc q2 cb
    by_cases hg : 1 < x.size
    · have d1 : decide ((1 : Int) < (x.size : Int)) = true := decide_eq_true (by omega)
      by_cases he : x[0] = t[0]
      · have d2 : (((x[0].toNat : Nat) : Int) == ((t[0].toNat : Nat) : Int)) = true := by rw [he]; simp
        have hfin : Hid (growB L k = true) := by unfold Hid; rw [hr.out, hhd.out, he, HT0.out]; simp [hg]
        clear he hgt
        go_wp2_with fail
        go_quiet (fail)
        go_wp2_with fail
        go_ret
        exact ⟨ret_bool hfin.out.symm, below_drewN K2.out _⟩
      · have d2 : (((x[0].toNat : Nat) : Int) == ((t[0].toNat : Nat) : Int)) = false := beq_eq_false_iff_ne.2 (fun e => he (byte_inj e))
        have hfin : Hid (growB L k = false) := by
          unfold Hid; rw [hr.out, hhd.out, ← HT0.out]
          rw [decide_eq_false (p := some x[0] = some t[0]) (fun e => he (Option.some.inj e)), Bool.and_false]
        clear he hgt
        go_wp2_with fail
        go_quiet (fail)
        go_wp2_with fail
        go_ret
        exact ⟨ret_bool hfin.out.symm, below_drewN K2.out _⟩
    · have d1 : decide ((1 : Int) < (x.size : Int)) = false := decide_eq_false (by omega)
      have d3 : decide (1 < x.size) = false := decide_eq_false hg
      have hfin : Hid (growB L k = false) := by unfold Hid; rw [hr.out, d3]; rfl
      clear hgt
      go_wp2_with fail
      go_quiet (fail)
      go_wp2_with fail
      go_ret
      exact ⟨ret_bool hfin.out.symm, below_drewN K2.out _⟩
end Go.Proofs.YtlmciomoimfajaaDoor
