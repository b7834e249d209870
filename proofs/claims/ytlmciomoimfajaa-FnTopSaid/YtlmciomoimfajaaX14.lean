/- Contract of NamedSubst of the reference at its seven names. No condition. (Printed by wip/bin/genX14.py.) -/
import Derived.Test.YtlmciomoimfajaaX13
import Derived.KernelRfl
namespace Go.Proofs.Ytlmciomoimfajaa
open Go.RowKit
set_option linter.unusedVariables false

def nmB : Nat → ByteArray
  | 0 => ⟨#[102, 105, 98, 111, 110, 97, 99, 99, 105]⟩
  | 1 => ⟨#[116, 104, 117, 101]⟩
  | 2 => ⟨#[100, 111, 117, 98, 108, 105, 110, 103]⟩
  | 3 => ⟨#[116, 114, 105, 98, 111, 110, 97, 99, 99, 105]⟩
  | 4 => ⟨#[115, 105, 108, 118, 101, 114]⟩
  | 5 => ⟨#[115, 113, 117, 97, 114, 101, 102, 114, 101, 101]⟩
  | _ => ⟨#[114, 117, 100, 105, 110]⟩
def txB : Nat → ByteArray
  | 0 => ⟨#[97, 98, 44, 97]⟩
  | 1 => ⟨#[97, 98, 44, 98, 97]⟩
  | 2 => ⟨#[97, 98, 44, 97, 97]⟩
  | 3 => ⟨#[97, 98, 44, 97, 99, 44, 97]⟩
  | 4 => ⟨#[97, 97, 98, 44, 97]⟩
  | 5 => ⟨#[97, 98, 99, 44, 97, 99, 44, 98]⟩
  | _ => ⟨#[97, 98, 44, 97, 99, 44, 100, 98, 44, 100, 99]⟩
def lsB : Nat → List ByteArray
  | 0 => [St [97, 98], St [97]]
  | 1 => [St [97, 98], St [98, 97]]
  | 2 => [St [97, 98], St [97, 97]]
  | 3 => [St [97, 98], St [97, 99], St [97]]
  | 4 => [St [97, 97, 98], St [97]]
  | 5 => [St [97, 98, 99], St [97, 99], St [98]]
  | _ => [St [97, 98], St [97, 99], St [100, 98], St [100, 99]]
theorem okL_dec {L : List ByteArray} (h : (decide (1 ≤ L.length) && decide (L.length ≤ 4) && L.all fun x => decide (1 ≤ x.size) && decide (x.size ≤ 8) && x.data.toList.all fun c => decide (97 ≤ c.toNat) && decide (c.toNat < 97 + L.length)) = true) : OkL L := by
  simp only [Bool.and_eq_true, decide_eq_true_eq, List.all_eq_true] at h
  exact ⟨h.1.1, h.1.2, fun x hx => (h.2 x hx).1, fun x hx c hc => (h.2 x hx).2 c hc⟩
set_option maxRecDepth 20000 in
set_option maxHeartbeats 8000000 in
theorem namedSubst_s (j : Nat) (hj : j < 7) (w : World) :
    Calls Try.prog 135 #[.string (nmB j)] w fun e w' => ∃ ga c, e = .returned (.tuple #[sbV ga (lsB j).length c, .bool true]) ∧ OwnS w' w.heap.size (.slice ga (lsB j).length c) (lsB j) ∧ Below w.heap.size w w' := by
  obtain ⟨wz, hwz⟩ : ∃ wz, wz = w.alloc (.cells #[.slice none 0 0] 67) := ⟨_, rfl⟩
  have hbz : Hid (Below w.heap.size w wz) := by rw [hwz]; exact (Below.refl _ _).alloc (Nat.le_refl _) _
  have hsz : wz.heap.size = w.heap.size + 1 := by rw [hwz]; simp
  have hhz : Hid (wz.heap[w.heap.size]? = some (.cells #[.slice none 0 0] 67 (0, 0))) := by rw [hwz]; exact heap_alloc_new w _
  have HWZ := Lib.hid hwz
  clear hwz
  have key : ∀ (w1 : World) (ga : Option Addr) (n c : Nat) (L : List ByteArray), OwnS w1 wz.heap.size (.slice ga n c) L → Below wz.heap.size wz w1 → w1.cell? ⟨w.heap.size, 0, none⟩ = some (.slice none 0 0) ∧ w1.frozen? ⟨w.heap.size, 0, none⟩ = false ∧ (w1.setCell ⟨w.heap.size, 0, none⟩ (.slice ga n c)).cell? ⟨w.heap.size, 0, none⟩ = some (.slice ga n c) ∧ OwnS (w1.setCell ⟨w.heap.size, 0, none⟩ (.slice ga n c)) w.heap.size (.slice ga n c) L ∧ Below w.heap.size w (w1.setCell ⟨w.heap.size, 0, none⟩ (.slice ga n c)) := by
    intro w1 ga n c L ho hb
    have hh : w1.heap[w.heap.size]? = some (.cells #[.slice none 0 0] 67 (0, 0)) := by rw [hb.block _ (by omega)]; exact hhz.out
    obtain ⟨r3, r4⟩ := heap_cell hh
    refine ⟨r3, r4, World.cell?_setCell_same w1 ⟨w.heap.size, 0, none⟩ (.slice ga n c) r3, ?_, (hbz.out.trans (hb.mono (by omega))).setCell (p := ⟨w.heap.size, 0, none⟩) (Nat.le_refl _) _⟩
    refine own_baseX (World.ownsRow.kept ho (grown_setc w1 w.heap.size 0 _) ?_) (by omega)
    cases hq : (Value.slice ga n c).ownBlock with
    | none => exact .inl rfl
    | some q => exact .inr (by have := (World.ownsRow.lt ho q hq).1; intro e; cases e; omega)
  have KEY := Lib.hid key
  clear key hbz hhz
  rcases (show j = 0 ∨ j = 1 ∨ j = 2 ∨ j = 3 ∨ j = 4 ∨ j = 5 ∨ j = 6 by omega) with rfl | rfl | rfl | rfl | rfl | rfl | rfl
  · show Calls Try.prog 135 #[.string ⟨#[102, 105, 98, 111, 110, 97, 99, 99, 105]⟩] w fun e w' => ∃ ga c, e = .returned (.tuple #[sbV ga 2 c, .bool true]) ∧ OwnS w' w.heap.size (.slice ga 2 c) [St [97, 98], St [97]] ∧ Below w.heap.size w w'
    have e0 : ((⟨#[102, 105, 98, 111, 110, 97, 99, 99, 105]⟩ : ByteArray).toList == (⟨#[102, 105, 98, 111, 110, 97, 99, 99, 105]⟩ : ByteArray).toList) = true := by decide +kernel
    have hp := Lib.hid (parseSubst_s ⟨#[97, 98, 44, 97]⟩ [St [97, 98], St [97]] wz (by decide) (by kernel_rfl) (okL_dec (by decide +kernel)) (by kernel_rfl))
    rw [show ([St [97, 98], St [97]] : List ByteArray).length = 2 from rfl] at hp
    unfold sbV at hp ⊢
    obtain ⟨L, hL⟩ : ∃ L, L = [St [97, 98], St [97]] := ⟨_, rfl⟩
    rw [← hL] at hp ⊢
    clear hL
    go_enter Try.func135, Try.ntmps135
    go_wp2_with fail
    rw [← HWZ.out]
    refine hp.out.mono ?_
    rintro e w1 ⟨ga, c, rfl, ho, hb⟩
    obtain ⟨r3, r4, r5, r6, r7⟩ := KEY.out w1 ga 2 c L ho hb
    have HR6 := Lib.hid r6
    have HR7 := Lib.hid r7
    clear ho hb r6 r7
    go_wp2_with fail
    refine bodyPost_ret (v := .tuple #[.agg #[.slice ga 2 c], .bool true]) (by simp [results, Try.results135, go_sem, r5]) rfl ?_
    exact ⟨ga, c, rfl, HR6.out, HR7.out⟩
  · show Calls Try.prog 135 #[.string ⟨#[116, 104, 117, 101]⟩] w fun e w' => ∃ ga c, e = .returned (.tuple #[sbV ga 2 c, .bool true]) ∧ OwnS w' w.heap.size (.slice ga 2 c) [St [97, 98], St [98, 97]] ∧ Below w.heap.size w w'
    have e0 : ((⟨#[116, 104, 117, 101]⟩ : ByteArray).toList == (⟨#[102, 105, 98, 111, 110, 97, 99, 99, 105]⟩ : ByteArray).toList) = false := by decide +kernel
    have e1 : ((⟨#[116, 104, 117, 101]⟩ : ByteArray).toList == (⟨#[116, 104, 117, 101]⟩ : ByteArray).toList) = true := by decide +kernel
    have hp := Lib.hid (parseSubst_s ⟨#[97, 98, 44, 98, 97]⟩ [St [97, 98], St [98, 97]] wz (by decide) (by kernel_rfl) (okL_dec (by decide +kernel)) (by kernel_rfl))
    rw [show ([St [97, 98], St [98, 97]] : List ByteArray).length = 2 from rfl] at hp
    unfold sbV at hp ⊢
    obtain ⟨L, hL⟩ : ∃ L, L = [St [97, 98], St [98, 97]] := ⟨_, rfl⟩
    rw [← hL] at hp ⊢
    clear hL
    go_enter Try.func135, Try.ntmps135
    go_wp2_with fail
    rw [← HWZ.out]
    refine hp.out.mono ?_
    rintro e w1 ⟨ga, c, rfl, ho, hb⟩
    obtain ⟨r3, r4, r5, r6, r7⟩ := KEY.out w1 ga 2 c L ho hb
    have HR6 := Lib.hid r6
    have HR7 := Lib.hid r7
    clear ho hb r6 r7
    go_wp2_with fail
    refine bodyPost_ret (v := .tuple #[.agg #[.slice ga 2 c], .bool true]) (by simp [results, Try.results135, go_sem, r5]) rfl ?_
    exact ⟨ga, c, rfl, HR6.out, HR7.out⟩
  · show Calls Try.prog 135 #[.string ⟨#[100, 111, 117, 98, 108, 105, 110, 103]⟩] w fun e w' => ∃ ga c, e = .returned (.tuple #[sbV ga 2 c, .bool true]) ∧ OwnS w' w.heap.size (.slice ga 2 c) [St [97, 98], St [97, 97]] ∧ Below w.heap.size w w'
    have e0 : ((⟨#[100, 111, 117, 98, 108, 105, 110, 103]⟩ : ByteArray).toList == (⟨#[102, 105, 98, 111, 110, 97, 99, 99, 105]⟩ : ByteArray).toList) = false := by decide +kernel
    have e1 : ((⟨#[100, 111, 117, 98, 108, 105, 110, 103]⟩ : ByteArray).toList == (⟨#[116, 104, 117, 101]⟩ : ByteArray).toList) = false := by decide +kernel
    have e2 : ((⟨#[100, 111, 117, 98, 108, 105, 110, 103]⟩ : ByteArray).toList == (⟨#[100, 111, 117, 98, 108, 105, 110, 103]⟩ : ByteArray).toList) = true := by decide +kernel
    have hp := Lib.hid (parseSubst_s ⟨#[97, 98, 44, 97, 97]⟩ [St [97, 98], St [97, 97]] wz (by decide) (by kernel_rfl) (okL_dec (by decide +kernel)) (by kernel_rfl))
    rw [show ([St [97, 98], St [97, 97]] : List ByteArray).length = 2 from rfl] at hp
    unfold sbV at hp ⊢
    obtain ⟨L, hL⟩ : ∃ L, L = [St [97, 98], St [97, 97]] := ⟨_, rfl⟩
    rw [← hL] at hp ⊢
    clear hL
    go_enter Try.func135, Try.ntmps135
    go_wp2_with fail
    rw [← HWZ.out]
    refine hp.out.mono ?_
    rintro e w1 ⟨ga, c, rfl, ho, hb⟩
    obtain ⟨r3, r4, r5, r6, r7⟩ := KEY.out w1 ga 2 c L ho hb
    have HR6 := Lib.hid r6
    have HR7 := Lib.hid r7
    clear ho hb r6 r7
    go_wp2_with fail
    refine bodyPost_ret (v := .tuple #[.agg #[.slice ga 2 c], .bool true]) (by simp [results, Try.results135, go_sem, r5]) rfl ?_
    exact ⟨ga, c, rfl, HR6.out, HR7.out⟩
  · show Calls Try.prog 135 #[.string ⟨#[116, 114, 105, 98, 111, 110, 97, 99, 99, 105]⟩] w fun e w' => ∃ ga c, e = .returned (.tuple #[sbV ga 3 c, .bool true]) ∧ OwnS w' w.heap.size (.slice ga 3 c) [St [97, 98], St [97, 99], St [97]] ∧ Below w.heap.size w w'
    have e0 : ((⟨#[116, 114, 105, 98, 111, 110, 97, 99, 99, 105]⟩ : ByteArray).toList == (⟨#[102, 105, 98, 111, 110, 97, 99, 99, 105]⟩ : ByteArray).toList) = false := by decide +kernel
    have e1 : ((⟨#[116, 114, 105, 98, 111, 110, 97, 99, 99, 105]⟩ : ByteArray).toList == (⟨#[116, 104, 117, 101]⟩ : ByteArray).toList) = false := by decide +kernel
    have e2 : ((⟨#[116, 114, 105, 98, 111, 110, 97, 99, 99, 105]⟩ : ByteArray).toList == (⟨#[100, 111, 117, 98, 108, 105, 110, 103]⟩ : ByteArray).toList) = false := by decide +kernel
    have e3 : ((⟨#[116, 114, 105, 98, 111, 110, 97, 99, 99, 105]⟩ : ByteArray).toList == (⟨#[116, 114, 105, 98, 111, 110, 97, 99, 99, 105]⟩ : ByteArray).toList) = true := by decide +kernel
    have hp := Lib.hid (parseSubst_s ⟨#[97, 98, 44, 97, 99, 44, 97]⟩ [St [97, 98], St [97, 99], St [97]] wz (by decide) (by kernel_rfl) (okL_dec (by decide +kernel)) (by kernel_rfl))
    rw [show ([St [97, 98], St [97, 99], St [97]] : List ByteArray).length = 3 from rfl] at hp
    unfold sbV at hp ⊢
    obtain ⟨L, hL⟩ : ∃ L, L = [St [97, 98], St [97, 99], St [97]] := ⟨_, rfl⟩
    rw [← hL] at hp ⊢
    clear hL
    go_enter Try.func135, Try.ntmps135
    go_wp2_with fail
    rw [← HWZ.out]
    refine hp.out.mono ?_
    rintro e w1 ⟨ga, c, rfl, ho, hb⟩
    obtain ⟨r3, r4, r5, r6, r7⟩ := KEY.out w1 ga 3 c L ho hb
    have HR6 := Lib.hid r6
    have HR7 := Lib.hid r7
    clear ho hb r6 r7
    go_wp2_with fail
    refine bodyPost_ret (v := .tuple #[.agg #[.slice ga 3 c], .bool true]) (by simp [results, Try.results135, go_sem, r5]) rfl ?_
    exact ⟨ga, c, rfl, HR6.out, HR7.out⟩
  · show Calls Try.prog 135 #[.string ⟨#[115, 105, 108, 118, 101, 114]⟩] w fun e w' => ∃ ga c, e = .returned (.tuple #[sbV ga 2 c, .bool true]) ∧ OwnS w' w.heap.size (.slice ga 2 c) [St [97, 97, 98], St [97]] ∧ Below w.heap.size w w'
    have e0 : ((⟨#[115, 105, 108, 118, 101, 114]⟩ : ByteArray).toList == (⟨#[102, 105, 98, 111, 110, 97, 99, 99, 105]⟩ : ByteArray).toList) = false := by decide +kernel
    have e1 : ((⟨#[115, 105, 108, 118, 101, 114]⟩ : ByteArray).toList == (⟨#[116, 104, 117, 101]⟩ : ByteArray).toList) = false := by decide +kernel
    have e2 : ((⟨#[115, 105, 108, 118, 101, 114]⟩ : ByteArray).toList == (⟨#[100, 111, 117, 98, 108, 105, 110, 103]⟩ : ByteArray).toList) = false := by decide +kernel
    have e3 : ((⟨#[115, 105, 108, 118, 101, 114]⟩ : ByteArray).toList == (⟨#[116, 114, 105, 98, 111, 110, 97, 99, 99, 105]⟩ : ByteArray).toList) = false := by decide +kernel
    have e4 : ((⟨#[115, 105, 108, 118, 101, 114]⟩ : ByteArray).toList == (⟨#[115, 105, 108, 118, 101, 114]⟩ : ByteArray).toList) = true := by decide +kernel
    have hp := Lib.hid (parseSubst_s ⟨#[97, 97, 98, 44, 97]⟩ [St [97, 97, 98], St [97]] wz (by decide) (by kernel_rfl) (okL_dec (by decide +kernel)) (by kernel_rfl))
    rw [show ([St [97, 97, 98], St [97]] : List ByteArray).length = 2 from rfl] at hp
    unfold sbV at hp ⊢
    obtain ⟨L, hL⟩ : ∃ L, L = [St [97, 97, 98], St [97]] := ⟨_, rfl⟩
    rw [← hL] at hp ⊢
    clear hL
    go_enter Try.func135, Try.ntmps135
    go_wp2_with fail
    rw [← HWZ.out]
    refine hp.out.mono ?_
    rintro e w1 ⟨ga, c, rfl, ho, hb⟩
    obtain ⟨r3, r4, r5, r6, r7⟩ := KEY.out w1 ga 2 c L ho hb
    have HR6 := Lib.hid r6
    have HR7 := Lib.hid r7
    clear ho hb r6 r7
    go_wp2_with fail
    refine bodyPost_ret (v := .tuple #[.agg #[.slice ga 2 c], .bool true]) (by simp [results, Try.results135, go_sem, r5]) rfl ?_
    exact ⟨ga, c, rfl, HR6.out, HR7.out⟩
  · show Calls Try.prog 135 #[.string ⟨#[115, 113, 117, 97, 114, 101, 102, 114, 101, 101]⟩] w fun e w' => ∃ ga c, e = .returned (.tuple #[sbV ga 3 c, .bool true]) ∧ OwnS w' w.heap.size (.slice ga 3 c) [St [97, 98, 99], St [97, 99], St [98]] ∧ Below w.heap.size w w'
    have e0 : ((⟨#[115, 113, 117, 97, 114, 101, 102, 114, 101, 101]⟩ : ByteArray).toList == (⟨#[102, 105, 98, 111, 110, 97, 99, 99, 105]⟩ : ByteArray).toList) = false := by decide +kernel
    have e1 : ((⟨#[115, 113, 117, 97, 114, 101, 102, 114, 101, 101]⟩ : ByteArray).toList == (⟨#[116, 104, 117, 101]⟩ : ByteArray).toList) = false := by decide +kernel
    have e2 : ((⟨#[115, 113, 117, 97, 114, 101, 102, 114, 101, 101]⟩ : ByteArray).toList == (⟨#[100, 111, 117, 98, 108, 105, 110, 103]⟩ : ByteArray).toList) = false := by decide +kernel
    have e3 : ((⟨#[115, 113, 117, 97, 114, 101, 102, 114, 101, 101]⟩ : ByteArray).toList == (⟨#[116, 114, 105, 98, 111, 110, 97, 99, 99, 105]⟩ : ByteArray).toList) = false := by decide +kernel
    have e4 : ((⟨#[115, 113, 117, 97, 114, 101, 102, 114, 101, 101]⟩ : ByteArray).toList == (⟨#[115, 105, 108, 118, 101, 114]⟩ : ByteArray).toList) = false := by decide +kernel
    have e5 : ((⟨#[115, 113, 117, 97, 114, 101, 102, 114, 101, 101]⟩ : ByteArray).toList == (⟨#[115, 113, 117, 97, 114, 101, 102, 114, 101, 101]⟩ : ByteArray).toList) = true := by decide +kernel
    have hp := Lib.hid (parseSubst_s ⟨#[97, 98, 99, 44, 97, 99, 44, 98]⟩ [St [97, 98, 99], St [97, 99], St [98]] wz (by decide) (by kernel_rfl) (okL_dec (by decide +kernel)) (by kernel_rfl))
    rw [show ([St [97, 98, 99], St [97, 99], St [98]] : List ByteArray).length = 3 from rfl] at hp
    unfold sbV at hp ⊢
    obtain ⟨L, hL⟩ : ∃ L, L = [St [97, 98, 99], St [97, 99], St [98]] := ⟨_, rfl⟩
    rw [← hL] at hp ⊢
    clear hL
    go_enter Try.func135, Try.ntmps135
    go_wp2_with fail
    rw [← HWZ.out]
    refine hp.out.mono ?_
    rintro e w1 ⟨ga, c, rfl, ho, hb⟩
    obtain ⟨r3, r4, r5, r6, r7⟩ := KEY.out w1 ga 3 c L ho hb
    have HR6 := Lib.hid r6
    have HR7 := Lib.hid r7
    clear ho hb r6 r7
    go_wp2_with fail
    refine bodyPost_ret (v := .tuple #[.agg #[.slice ga 3 c], .bool true]) (by simp [results, Try.results135, go_sem, r5]) rfl ?_
    exact ⟨ga, c, rfl, HR6.out, HR7.out⟩
  · show Calls Try.prog 135 #[.string ⟨#[114, 117, 100, 105, 110]⟩] w fun e w' => ∃ ga c, e = .returned (.tuple #[sbV ga 4 c, .bool true]) ∧ OwnS w' w.heap.size (.slice ga 4 c) [St [97, 98], St [97, 99], St [100, 98], St [100, 99]] ∧ Below w.heap.size w w'
    have e0 : ((⟨#[114, 117, 100, 105, 110]⟩ : ByteArray).toList == (⟨#[102, 105, 98, 111, 110, 97, 99, 99, 105]⟩ : ByteArray).toList) = false := by decide +kernel
    have e1 : ((⟨#[114, 117, 100, 105, 110]⟩ : ByteArray).toList == (⟨#[116, 104, 117, 101]⟩ : ByteArray).toList) = false := by decide +kernel
    have e2 : ((⟨#[114, 117, 100, 105, 110]⟩ : ByteArray).toList == (⟨#[100, 111, 117, 98, 108, 105, 110, 103]⟩ : ByteArray).toList) = false := by decide +kernel
    have e3 : ((⟨#[114, 117, 100, 105, 110]⟩ : ByteArray).toList == (⟨#[116, 114, 105, 98, 111, 110, 97, 99, 99, 105]⟩ : ByteArray).toList) = false := by decide +kernel
    have e4 : ((⟨#[114, 117, 100, 105, 110]⟩ : ByteArray).toList == (⟨#[115, 105, 108, 118, 101, 114]⟩ : ByteArray).toList) = false := by decide +kernel
    have e5 : ((⟨#[114, 117, 100, 105, 110]⟩ : ByteArray).toList == (⟨#[115, 113, 117, 97, 114, 101, 102, 114, 101, 101]⟩ : ByteArray).toList) = false := by decide +kernel
    have e6 : ((⟨#[114, 117, 100, 105, 110]⟩ : ByteArray).toList == (⟨#[114, 117, 100, 105, 110]⟩ : ByteArray).toList) = true := by decide +kernel
    have hp := Lib.hid (parseSubst_s ⟨#[97, 98, 44, 97, 99, 44, 100, 98, 44, 100, 99]⟩ [St [97, 98], St [97, 99], St [100, 98], St [100, 99]] wz (by decide) (by kernel_rfl) (okL_dec (by decide +kernel)) (by kernel_rfl))
    rw [show ([St [97, 98], St [97, 99], St [100, 98], St [100, 99]] : List ByteArray).length = 4 from rfl] at hp
    unfold sbV at hp ⊢
    obtain ⟨L, hL⟩ : ∃ L, L = [St [97, 98], St [97, 99], St [100, 98], St [100, 99]] := ⟨_, rfl⟩
    rw [← hL] at hp ⊢
    clear hL
    go_enter Try.func135, Try.ntmps135
    go_wp2_with fail
    rw [← HWZ.out]
    refine hp.out.mono ?_
    rintro e w1 ⟨ga, c, rfl, ho, hb⟩
    obtain ⟨r3, r4, r5, r6, r7⟩ := KEY.out w1 ga 4 c L ho hb
    have HR6 := Lib.hid r6
    have HR7 := Lib.hid r7
    clear ho hb r6 r7
    go_wp2_with fail
    refine bodyPost_ret (v := .tuple #[.agg #[.slice ga 4 c], .bool true]) (by simp [results, Try.results135, go_sem, r5]) rfl ?_
    exact ⟨ga, c, rfl, HR6.out, HR7.out⟩
end Go.Proofs.Ytlmciomoimfajaa
