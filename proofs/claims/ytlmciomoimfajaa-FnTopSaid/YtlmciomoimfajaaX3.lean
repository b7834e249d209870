/- Contracts of apply, ApplySubst and IterateSubst in the program. Conditions: a valid substitution whose images can be read, a word over its letters. -/
import Derived.Test.YtlmciomoimfajaaX2
namespace Go.Proofs.Ytlmciomoimfajaa
open Go.RowKit
set_option linter.unusedVariables false

theorem itL_in {L : List ByteArray} (h : OkL L) {l : List UInt8} (hl : ∀ c ∈ l, inL L c) : ∀ k, ∀ c ∈ itL L l k, inL L c
  | 0 => hl
  | k + 1 => apL_in h (itL_in h hl k)
theorem itL_mono {L : List ByteArray} (h : OkL L) {l : List UInt8} (hl : ∀ c ∈ l, inL L c) {j : Nat} : ∀ k, (itL L l j).length ≤ (itL L l (j + k)).length
  | 0 => Nat.le_refl _
  | k + 1 => Nat.le_trans (itL_mono h hl k) (apL_len h (itL_in h hl (j + k))).1
theorem word_len {L : List ByteArray} (h : OkL L) {l : List UInt8} (hl : ∀ c ∈ l, inL L c) : wordL l = decide (l.length ≤ 400) := by
  by_cases hz : l.length ≤ 400
  · rw [decide_eq_true hz]; exact wordL_mk (fun c hc => inL_abcd h (hl c hc)) hz
  · rw [decide_eq_false hz]
    cases hw : wordL l with
    | false => rfl
    | true => exact absurd (wordL_len hw) hz
set_option maxRecDepth 20000 in
set_option maxHeartbeats 2000000 in
theorem apply_c (ga : Option Addr) (n c : Nat) (L : List ByteArray) (s : ByteArray) (w : World) (h : RdSub w ga n c L) (hok : OkL L) (hs : ∀ x ∈ s.data.toList, inL L x) (hz : s.size ≤ 400) :
    Calls Try.prog 118 #[sbV ga n c, .string s] w fun e w' => e = .returned (.string (St (apL L s.data.toList))) ∧ Below w.heap.size w w' := by
  have hIM := Lib.hid (fun k (hk : k < s.size) W (hW : Below w.heap.size w W) => image_c ga n c L s[k] W (h.below hW) hok (hs s[k] (List.mem_of_getElem (i := k) (h := by simpa using hk) rfl)))
  have hIS := Lib.hid (fun k (hk : k < s.size) => imL_bd hok (hs s[k] (List.mem_of_getElem (i := k) (h := by simpa using hk) rfl)))
  have hst : Hid ((⟨#[]⟩ : ByteArray) = St (apL L (s.data.toList.take 0))) := rfl
  have hsn : Hid (∀ k (hk : k < s.size), St (apL L (s.data.toList.take k)) ++ St (imL L s[k]) = St (apL L (s.data.toList.take (k + 1)))) := fun k hk => by
    rw [take_snoc s k hk, apL_snoc]
    apply str_inj
    rw [ByteArray.data_append, Array.toList_append]; rfl
  have hfin : Hid (s.data.toList.take s.size = s.data.toList) := List.take_of_length_le (by rw [← size_len]; exact Nat.le_refl _)
  have hal : Hid (∀ k, k ≤ s.size → (apL L (s.data.toList.take k)).length ≤ 8 * k) := fun k hk => by
    have := (apL_len hok (l := s.data.toList.take k) fun c hc => hs c (List.mem_of_mem_take hc)).2
    rw [List.length_take] at this; omega
  unfold sbV at hIM ⊢
  have hba : Below w.heap.size w (w.alloc (.cells #[.slice ga n c] 67)) := (Below.refl _ _).alloc (Nat.le_refl _) _
  have cw := box_cell w (.slice ga n c) 67
  obtain ⟨wa, hwa⟩ : ∃ wa, wa = w.alloc (.cells #[.slice ga n c] 67) := ⟨_, rfl⟩
  have hszw : w.heap.size < wa.heap.size := by rw [hwa]; simp
  rw [← hwa] at cw hba
  have CW := Lib.hid (fun W (hW : Below wa.heap.size wa W) => show W.cell? ⟨w.heap.size, 0, none⟩ = some (.slice ga n c) by rw [hW.cell (p := ⟨w.heap.size, 0, none⟩) hszw]; exact cw)
  have HBA := Lib.hid hba
  have HWA := Lib.hid hwa
  clear h hok hs hwa hba cw
  go_enter Try.func118, Try.ntmps118
  go_wp2_with fail
  rw [← HWA.out]
  go_loopw [5, 9] (fun y z wr => ∃ (k : Nat) (t : ByteArray), z = .int .i64 (k : Int) ∧ k ≤ s.size ∧ y = .string t ∧ Hid (t = St (apL L (s.data.toList.take k))) ∧ Below wa.heap.size wa wr) (fun _ z _ => s.size - (intOf z).toNat)
  case atStart => exact ⟨0, _, rfl, by omega, rfl, hst, Below.refl _ _⟩
  case round =>
    obtain ⟨k, t, rfl, hk, rfl, ht, hbr⟩ := hrel
    by_cases hlt : k < s.size
    · have hI := hIS.out k hlt
      have hl8 := hal.out k hk
      have htz : t.size ≤ 3200 := by rw [ht.out, St_size]; omega
      obtain ⟨u, hu⟩ : ∃ u, u = St (imL L s[k]) := ⟨_, rfl⟩
      have huz : u.size ≤ 8 := by rw [hu, St_size]; exact hI.2.1
      have hnx : Hid (t ++ u = St (apL L (s.data.toList.take (k + 1)))) := by unfold Hid; rw [ht.out, hu]; exact hsn.out k hlt
      have hbwd : Below w.heap.size w wr.drew := below_drewN (HBA.out.trans (hbr.mono (by omega))) 1
      have q2 := Lib.hid (hIM.out k hlt wr.drew hbwd)
      rw [← hu] at q2
      have cb := CW.out wr hbr
      have b1 : (k : Int) < (s.size : Int) := by omega
      have HBD : Hid (Below wa.heap.size wa wr.drew) := below_drewN hbr 1
      clear hu hI hl8 hbwd
      go_upto_region 5 with fail
      go_region_with (go_at_call 121; refine q2.out.mono ?_; rintro e w2 ⟨rfl, rfl⟩)
      all_goals
        go_wp2_with fail
        go_roundw
        case rel => exact ⟨k + 1, t ++ u, by go_num, by omega, rfl, hnx, HBD.out.alloc HBD.out.size _⟩
        case measure => simp [intOf] <;> omega
    · obtain rfl : k = s.size := by omega
      have b1 : decide ((s.size : Int) < (s.size : Int)) = false := decide_eq_false (by omega)
      have hr : Hid (t = St (apL L s.data.toList)) := by unfold Hid; rw [ht.out, hfin.out]
      have HBR := Lib.hid (HBA.out.trans (hbr.mono (by omega)))
      go_wp2_with fail
      go_ret
      exact ⟨ret_str hr.out, HBR.out⟩
def itB (L : List ByteArray) (l : List UInt8) (m : Nat) : Bool := decide ((itL L l m).length ≤ 400)
def itS (L : List ByteArray) (l : List UInt8) (m : Nat) : ByteArray := if itB L l m = true then St (itL L l m) else St []
theorem ret_sbX {a b : ByteArray} {c d : Bool} (h1 : a = b) (h2 : c = d) : Ending.returned (.tuple #[.string a, .bool c]) = .returned (.tuple #[.string b, .bool d]) := by rw [h1, h2]
set_option maxRecDepth 20000 in
set_option maxHeartbeats 2000000 in
theorem iterateSubst_i (ga : Option Addr) (n c : Nat) (L : List ByteArray) (s : ByteArray) (m : Nat) (w : World) (h : RdSub w ga n c L) (hok : OkL L) (hs : ∀ x ∈ s.data.toList, inL L x) (hz : s.size ≤ 400) (hm : m ≤ 20) :
    Calls Try.prog 75 #[sbV ga n c, .string s, .int .i64 (m : Int)] w fun e w' => e = .returned (.tuple #[.string (itS L s.data.toList m), .bool (itB L s.data.toList m)]) ∧ Below w.heap.size w w' := by
  have h1 := Lib.hid (fun W (hW : Below w.heap.size w W) => substOk_i ga n c L W (h.below hW) hok)
  have h2 := Lib.hid (fun W (hW : Below w.heap.size w W) => hasImages_c ga n c L s W (h.below hW) hok hs (okL_word hok hs hz))
  have h3 := fun W => Lib.hid (within_c (m : Int) 0 20 W)
  rw [inB_iff.2 (show (0 : Int) ≤ (m : Int) ∧ (m : Int) ≤ 20 by omega)] at h3
  have h4 := Lib.hid (fun t (ht : ∀ x ∈ t.data.toList, inL L x) (htz : t.size ≤ 400) W (hW : Below w.heap.size w W) => apply_c ga n c L t W (h.below hW) hok ht htz)
  have hit := Lib.hid (fun k => itL_in hok hs k)
  have hmo := Lib.hid (fun j k => itL_mono hok hs (j := j) k)
  have hwl := Lib.hid (fun l (hl : ∀ c ∈ l, inL L c) => word_len hok hl)
  have hap := Lib.hid (fun l (hl : ∀ c ∈ l, inL L c) => (apL_len hok hl).2)
  have hst : Hid (s = St (itL L s.data.toList 0)) := (St_of s).symm
  have h5 := fun t (ht : t.size ≤ 4000) W => Lib.hid (isWord_c t W (by unfold maxLen; omega))
  have hrT : Hid (itB L s.data.toList m = true → itS L s.data.toList m = St (itL L s.data.toList m)) := fun e => by unfold itS; rw [if_pos e]
  have hrF : Hid (itB L s.data.toList m = false → itS L s.data.toList m = ⟨#[]⟩) := fun e => by unfold itS; rw [if_neg (by rw [e]; decide)]; rfl
  unfold sbV at h1 h2 h4 ⊢
  obtain ⟨l0, hl0⟩ : ∃ l0, l0 = s.data.toList := ⟨_, rfl⟩
  rw [← hl0] at hit hmo hst hrT hrF ⊢
  have hba : Below w.heap.size w (w.alloc (.cells #[.slice ga n c] 67)) := (Below.refl _ _).alloc (Nat.le_refl _) _
  have cw := box_cell w (.slice ga n c) 67
  obtain ⟨wa, hwa⟩ : ∃ wa, wa = w.alloc (.cells #[.slice ga n c] 67) := ⟨_, rfl⟩
  have hszw : w.heap.size < wa.heap.size := by rw [hwa]; simp
  rw [← hwa] at cw hba
  have CW := Lib.hid (fun W (hW : Below wa.heap.size wa W) => show W.cell? ⟨w.heap.size, 0, none⟩ = some (.slice ga n c) by rw [hW.cell (p := ⟨w.heap.size, 0, none⟩) hszw]; exact cw)
  have HBA := Lib.hid hba
  have HWA := Lib.hid hwa
  have HL0 := Lib.hid hl0
  clear h hok hs hwa hba cw hl0
  go_enter Try.func75, Try.ntmps75
  go_wp2_with fail
  rw [← HWA.out]
  refine (h1.out wa HBA.out).mono ?_
  rintro e w1 ⟨rfl, b1⟩
  have K1 := Lib.hid (b1)
  have cb := CW.out w1 b1
  clear b1
  go_wp2_with fail
  refine (h2.out w1 (HBA.out.trans (K1.out.mono (by omega)))).mono ?_
  rintro e w2 ⟨rfl, b2⟩
  have K2 := Lib.hid (K1.out.trans (b2.mono K1.out.size))
  clear b2 cb
  go_wp2_with fail
  refine (h3 _).out.mono ?_
  rintro e w' ⟨rfl, rfl⟩
  go_wp2_with fail
  go_loopw [1, 23] (fun y z wr => ∃ (k : Nat) (t : ByteArray), z = .int .i64 (k : Int) ∧ k ≤ m ∧ y = .string t ∧ t.size ≤ 400 ∧ Hid (t = St (itL L l0 k)) ∧ Below wa.heap.size wa wr) (fun _ z _ => m - (intOf z).toNat)
  case atStart => exact ⟨0, s, rfl, by omega, rfl, hz, hst, K2.out⟩
  case round =>
    obtain ⟨k, t, rfl, hk, rfl, htz, ht, hbr⟩ := hrel
    by_cases hlt : k < m
    · have htd : t.data.toList = itL L l0 k := by rw [ht.out]; rfl
      have hti : ∀ x ∈ t.data.toList, inL L x := by rw [htd]; exact hit.out k
      have hcall := Lib.hid (h4.out t hti htz wr (HBA.out.trans (hbr.mono (by omega))))
      have hz2 := hap.out _ hti
      rw [← size_len] at hz2
      have hnw := hwl.out _ (hit.out (k + 1))
      have he2 : apL L t.data.toList = itL L l0 (k + 1) := by rw [htd]; rfl
      obtain ⟨u, hu⟩ : ∃ u, u = St (apL L t.data.toList) := ⟨_, rfl⟩
      have hut : Hid (u = St (itL L l0 (k + 1))) := by unfold Hid; rw [hu, he2]
      have huz : u.size ≤ 4000 := by rw [hu, St_size]; omega
      have huz2 : u.size = (itL L l0 (k + 1)).length := by rw [hut.out, St_size]
      rw [← hu] at hcall
      have q5 := h5 u huz
      have hud : u.data.toList = itL L l0 (k + 1) := by rw [hut.out]; rfl
      rw [hud, hnw, ← huz2] at q5
      have b1 : (k : Int) < (m : Int) := by omega
      have HBR := Lib.hid hbr
      have cb := CW.out wr hbr
      clear htd hti hz2 hnw he2 hu hud h5
      by_cases hle : u.size ≤ 400
      · rw [decide_eq_true hle] at q5
        clear huz2
        go_wp2_with fail
        refine hcall.out.mono ?_
        rintro e w3 ⟨rfl, b3⟩
        have K3 := Lib.hid (HBR.out.trans (b3.mono HBR.out.size))
        clear b3
        go_wp2_with fail
        refine (q5 _).out.mono ?_
        rintro e w' ⟨rfl, rfl⟩
        go_wp2_with fail
        go_roundw
        case rel => exact ⟨k + 1, u, by go_num, by omega, rfl, hle, hut, K3.out⟩
        case measure => simp [intOf] <;> omega
      · rw [decide_eq_false hle] at q5
        have hbig : Hid (itB L l0 m = false) := by
          have h7 := hmo.out (k + 1) (m - (k + 1))
          rw [show k + 1 + (m - (k + 1)) = m by omega] at h7
          exact decide_eq_false (by omega)
        clear huz2
        go_wp2_with fail
        refine hcall.out.mono ?_
        rintro e w3 ⟨rfl, b3⟩
        have K3 := Lib.hid (HBR.out.trans (b3.mono HBR.out.size))
        clear b3
        go_wp2_with fail
        refine (q5 _).out.mono ?_
        rintro e w' ⟨rfl, rfl⟩
        go_wp2_with fail
        go_ret2
        exact ⟨ret_sbX (hrF.out hbig.out).symm hbig.out.symm, HBA.out.trans (K3.out.mono (by omega))⟩
    · obtain rfl : m = k := by omega
      have b1 : decide ((m : Int) < (m : Int)) = false := decide_eq_false (by omega)
      have hok2 : Hid (itB L l0 m = true) := decide_eq_true (by rw [← St_size, ← ht.out]; exact htz)
      have hr : Hid (t = itS L l0 m) := by unfold Hid; rw [hrT.out hok2.out]; exact ht.out
      have HBR := Lib.hid (HBA.out.trans (hbr.mono (by omega)))
      go_wp2_with fail
      go_ret2
      exact ⟨ret_sbX hr.out hok2.out.symm, HBR.out⟩
set_option maxRecDepth 20000 in
theorem applySubst_i (ga : Option Addr) (n c : Nat) (L : List ByteArray) (s : ByteArray) (w : World) (h : RdSub w ga n c L) (hok : OkL L) (hs : ∀ x ∈ s.data.toList, inL L x) (hz : s.size ≤ 400) :
    Calls Try.prog 73 #[sbV ga n c, .string s] w fun e w' => e = .returned (.tuple #[.string (itS L s.data.toList 1), .bool (itB L s.data.toList 1)]) ∧ Below w.heap.size w w' := by
  have h1 := Lib.hid (fun W (hW : Below w.heap.size w W) => iterateSubst_i ga n c L s 1 W (h.below hW) hok hs hz (by omega))
  have hba : Hid (Below w.heap.size w (w.alloc (.cells #[.slice ga n c] 67))) := (Below.refl _ _).alloc (Nat.le_refl _) _
  unfold sbV at h1 ⊢
  obtain ⟨wa, hwa⟩ : ∃ wa, wa = w.alloc (.cells #[.slice ga n c] 67) := ⟨_, rfl⟩
  rw [← hwa] at hba
  have HWA := Lib.hid hwa
  clear h hok hs hwa
  go_enter Try.func73, Try.ntmps73
  go_wp2_with fail
  rw [← HWA.out]
  refine (h1.out wa hba.out).mono ?_
  rintro e w1 ⟨rfl, b1⟩
  have K1 := Lib.hid (hba.out.trans (b1.mono hba.out.size))
  clear b1
  go_wp2_with fail
  go_ret2
  exact ⟨rfl, K1.out⟩
end Go.Proofs.Ytlmciomoimfajaa
