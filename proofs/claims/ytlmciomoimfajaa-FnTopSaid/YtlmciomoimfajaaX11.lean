/- Contract of LengthAfter in the program at the letter a, and of FactorsOf. Conditions: a substitution for which a is growing, whose images can be read. -/
import Derived.Test.YtlmciomoimfajaaX10
namespace Go.Proofs.Ytlmciomoimfajaa
open Go.RowKit
set_option linter.unusedVariables false

theorem ctL_a {a : Nat} (ha : a < 4) : ctL [97] a = if a = 0 then 1 else 0 := by
  rcases (show a = 0 ∨ a = 1 ∨ a = 2 ∨ a = 3 by omega) with rfl | rfl | rfl | rfl <;> rfl
theorem ct_start {n : Nat} (hn : n ≤ 4) : fnL n (fun a => if a = 0 then 1 else 0) = fnL n (fun a => ((ctL [97] a : Nat) : Int)) := fnL_congr fun a ha => by
  rw [ctL_a (by omega)]; split <;> rfl
set_option maxRecDepth 20000 in
set_option maxHeartbeats 4000000 in
theorem lengthAfter_i (ga : Option Addr) (n c : Nat) (L : List ByteArray) (m : Nat) (w : World) (h : RdSub w ga n c L) (hg : GrL L) (hm : m ≤ 40) (hbig : (itL L [97] m).length ≤ 1000000) :
    Calls Try.prog 77 #[sbV ga n c, .string (St [letU 0]), .int .i64 (m : Int)] w fun e w' => e = .returned (.int .i64 (((itL L [97] m).length : Nat) : Int)) ∧ Below w.heap.size w w' := by
  have hok := hg.toOkL
  have hn := h.1
  have h4 := hok.four
  have h0 := hok.one
  have hn4 : n ≤ 4 := by omega
  have hn1 : 1 ≤ n := by omega
  have h1 := Lib.hid (fun W (hW : Below w.heap.size w W) => substOk_i ga n c L W (h.below hW) hok)
  have h2 := Lib.hid (fun W (hW : Below w.heap.size w W) => hasImage_c ga n c L 0 W (h.below hW) hok (by omega))
  have hal : ∀ x ∈ ([97] : List UInt8), inL L x := fun x hx => by rw [List.mem_singleton.1 hx]; exact in_a hok
  have h5 := Lib.hid (fun W (hW : Below w.heap.size w W) gc (hrd : ∀ a, a < n → W.cell? ⟨gc, a, none⟩ = some (.int .i64 ((ctL [97] a : Nat) : Int))) => countAfter_i ga n c L gc n [97] m W (h.below hW) hok hal (by decide) (Nat.le_refl _) hrd hm hbig)
  have hcs : Hid (sumTo (ctL (itL L [97] m)) n = (itL L [97] m).length) := by
    have := cnt_sum hok (itL L [97] m) (itL_in hok hal m)
    rw [← hn] at this; exact this
  have hcl := Lib.hid (fun a => ctL_le (itL L [97] m) a)
  obtain ⟨M, hM⟩ : ∃ M, M = (itL L [97] m).length := ⟨_, rfl⟩
  obtain ⟨Z, hZ⟩ : ∃ Z : Nat → Nat, Z = ctL (itL L [97] m) := ⟨_, rfl⟩
  have hZe : Hid ((fun a => ((ctL (itL L [97] m) a : Nat) : Int)) = fun a => ((Z a : Nat) : Int)) := by rw [hZ]; rfl
  rw [← hM] at hcs hcl hbig ⊢
  rw [← hZ] at hcs hcl
  obtain ⟨t, ht⟩ : ∃ t, t = St [letU 0] := ⟨_, rfl⟩
  have htz : t.size = 1 := by rw [ht, St_size]; rfl
  have ht0 : ((t[0]'(by omega)).toNat : Int) = 97 := by simp [ht, St]; rfl
  have h01 : 0 < t.size := by omega
  rw [← ht] at h2 ⊢
  unfold sbV at h1 h2 h5 ⊢
  have hba : Below w.heap.size w (w.alloc (.cells #[.slice ga n c] 67)) := (Below.refl _ _).alloc (Nat.le_refl _) _
  have cw := box_cell w (.slice ga n c) 67
  obtain ⟨wa, hwa⟩ : ∃ wa, wa = w.alloc (.cells #[.slice ga n c] 67) := ⟨_, rfl⟩
  have hszw : w.heap.size < wa.heap.size := by rw [hwa]; simp
  rw [← hwa] at cw hba
  have CW := Lib.hid (fun W (hW : Below wa.heap.size wa W) => show W.cell? ⟨w.heap.size, 0, none⟩ = some (.slice ga n c) by rw [hW.cell (p := ⟨w.heap.size, 0, none⟩) hszw]; exact cw)
  have HBA := Lib.hid hba
  have HWA := Lib.hid hwa
  obtain ⟨i0, hi0, hz, hi1, hi2⟩ := info_parts info_int
  have INFO := Lib.hid hi0
  have HZ := Lib.hid hz
  have HI1 := Lib.hid hi1
  have HI2 := Lib.hid hi2
  clear h hok hg hwa hba cw hn h4 h0 ht hal hM hZ hi0 hz hi1 hi2
  go_enter Try.func77, Try.ntmps77
  go_wp2_with fail
  rw [← HWA.out]
  refine (h1.out wa HBA.out).mono ?_
  rintro e w1 ⟨rfl, b1⟩
  have K1 := Lib.hid b1
  have cb := CW.out w1 b1
  clear b1
  go_wp2_with fail
  refine (h2.out w1 (HBA.out.trans (K1.out.mono (by omega)))).mono ?_
  rintro e w2 ⟨rfl, b2⟩
  have K2 := Lib.hid (K1.out.trans (b2.mono K1.out.size))
  have b0 : (0 : Int) < (n : Int) := by omega
  have cb2 := CW.out w2 K2.out
  have hs2 := K2.out.size
  clear b2 cb
  go_wp2_with (at_make; refine wpList_make_full _ rfl _ _ _ rfl w2.heap.size 3 i0 _ 1 Try.underlying24 INFO.out HZ.out HI1.out .i64 .i64 _ _ n rfl rfl rfl rfl (by rw [HI2.out]; omega) (by unfold maxLen; omega) (Nat.le_refl _) ?_; intro wn hown1 hg1; have r3 : wn.cell? ⟨w2.heap.size, 0, none⟩ = some (.int .i64 0) := (fn_cell hn1 (fn_made hown1)).1; have r4 : wn.frozen? ⟨w2.heap.size, 0, none⟩ = false := (fn_cell hn1 (fn_made hown1)).2; have hBn : Below w2.heap.size w2 wn := (Below.refl _ _).grown hg1 (Nat.le_refl _) (fun k hk => (by cases hk)); have hbs : Below w2.heap.size w2 (wn.setCell ⟨w2.heap.size, 0, none⟩ (.int .i64 1)) := hBn.setCell (p := ⟨w2.heap.size, 0, none⟩) (Nat.le_refl _) _; have cb3 := CW.out _ (K2.out.trans (hbs.mono hs2)))
  have hup := Lib.hid (fn_stored 0 1 (fn_made hown1))
  have K3 : Hid (Below wa.heap.size wa (wn.setCell ⟨w2.heap.size, 0, none⟩ (.int .i64 1))) := K2.out.trans (hbs.mono hs2)
  have q5 := Lib.hid (h5.out (wn.setCell ⟨w2.heap.size, 0, none⟩ (.int .i64 1)) (HBA.out.trans (K3.out.mono (by omega))) w2.heap.size (fun a ha => by
    have h1 := hup.out.1
    rw [show (fun a => if a = 0 then (1 : Int) else (fun _ => 0) a) = fun a => if a = 0 then 1 else 0 from rfl, ct_start hn4] at h1
    exact (fn_cell ha h1).1))
  rw [hZe.out] at q5
  obtain ⟨w3, hw3⟩ : ∃ w3, w3 = wn.setCell ⟨w2.heap.size, 0, none⟩ (.int .i64 1) := ⟨_, rfl⟩
  rw [← hw3] at q5 K3
  have HW3 := Lib.hid hw3
  clear hown1 hg1 hBn h1 h2 h5 hup hbs hw3
  rw [← HW3.out]
  refine q5.out.mono ?_
  rintro e w4 ⟨v, rfl, ho, b4⟩
  have K4 := Lib.hid (K3.out.trans (b4.mono K3.out.size))
  obtain ⟨gv, cv, _, hvv, hcv, _⟩ := ownI_cells ho (by rw [fnL_len]; exact hn1)
  rw [fnL_len] at hvv hcv
  subst hvv
  have hrd := Lib.hid (fun a (ha : a < n) => (fn_cell ha ho).1)
  have hst : Hid (0 = sumTo Z 0) := rfl
  clear ho b4 cb3 r3 r4
  go_wp2_with fail
  go_loop [10, 42] (fun y z => ∃ a s : Nat, z = .int .i64 (a : Int) ∧ a ≤ n ∧ y = .int .i64 (s : Int) ∧ Hid (s = sumTo Z a)) (fun _ z => n - (intOf z).toNat)
  case atStart => exact ⟨0, 0, rfl, by omega, rfl, hst⟩
  case round =>
    obtain ⟨a, s, rfl, ha, rfl, hs⟩ := hrel
    by_cases hlt : a < n
    · have r1 := hrd.out a hlt
      have y1 := hcl.out a
      have y2 := sumTo_mono Z (k := a) (m := n) (by omega)
      rw [← hs.out, hcs.out] at y2
      have hnx : Hid (s + Z a = sumTo Z (a + 1)) := by unfold Hid; rw [hs.out]; rfl
      obtain ⟨x, hx⟩ : ∃ x, x = Z a := ⟨_, rfl⟩
      rw [← hx] at r1 y1 hnx
      have b1 : (a : Int) < (n : Int) := by omega
      clear hx
      go_wp2
      go_round
      case rel => exact ⟨a + 1, s + x, by go_num, by omega, by go_num, hnx⟩
      case measure => simp [intOf] <;> omega
    · obtain rfl : n = a := by omega
      have b1 : decide ((n : Int) < (n : Int)) = false := decide_eq_false (by omega)
      go_wp2
      go_ret
      exact ⟨ret_int (by rw [hs.out, hcs.out]), HBA.out.trans (K4.out.mono (by omega))⟩
end Go.Proofs.Ytlmciomoimfajaa
