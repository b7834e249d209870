/- Contract of ReachOf in the program: every part of that many letters has all parts of n letters. Conditions: words. -/
import Derived.Test.YtlmciomoimfajaaY2
import Derived.Test.YtlmciomoimfajaaV4
import Derived.Deep.QuietTactic
import Derived.BigQuiet
import Derived.Deep.Cut
import Derived.Deep.CutRange
namespace Go.Proofs.Ytlmciomoimfajaa
open Go.RowKit
set_option linter.unusedVariables false

theorem plc_bd {s f : ByteArray} {j : Nat} (h : j < (plcW s f).length) : 0 ≤ gAt (plcW s f) j ∧ gAt (plcW s f) j + (f.size : Int) ≤ (s.size : Int) := by
  obtain ⟨p, hp, ho⟩ := plc_mem.1 (gAt_mem h)
  have := ho.1
  rw [hp]; omega
theorem rdI_cell {w : World} {ga : Option Addr} {n cc : Nat} {L : List Int} (hrd : RdI w (.slice ga n cc) L) {k : Nat} (hk : k < L.length) : ∃ g, ga = some ⟨g, 0, none⟩ ∧ n ≤ cc ∧ ∀ j, j < L.length → w.cell? ⟨g, j, none⟩ = some (.int .i64 (gAt L j)) := by
  rcases hrd with ⟨_, h0⟩ | ⟨g, cap, h, hcap, hc⟩
  · rw [h0] at hk; simp at hk
  · cases h; exact ⟨g, rfl, hcap, fun j hj => hc j _ (gAt_get hj)⟩
/-- what the first k parts say of the reach so far -/
structure RchK (s : ByteArray) (n k m : Nat) : Prop where
  z : k = 0 → m = 0
  p : 1 ≤ k → 1 ≤ m
  met : ∀ j x, j < k → (facW s n)[j]? = some x → Met s x (m : Int)
theorem rchK_zero (s : ByteArray) (n : Nat) : RchK s n 0 0 := ⟨fun _ => rfl, fun h => by omega, fun j x h => by omega⟩
theorem rchK_step {s : ByteArray} {n k m q : Nat} {x : ByteArray} (h : RchK s n k m) (hx : (facW s n)[k]? = some x) (hq : 1 ≤ q) (hm : Met s x (q : Int)) : RchK s n (k + 1) (max m q) := by
  refine ⟨fun h => by omega, fun _ => by omega, fun j y hj hy => ?_⟩
  rcases Nat.lt_succ_iff_lt_or_eq.1 hj with hj | rfl
  · exact met_mono (h.met j y hj hy) (by omega) (by omega)
  · rw [hx] at hy
    rw [← Option.some.inj hy]
    exact met_mono hm (by omega) (by omega)
theorem rchK_end {s : ByteArray} {n m : Nat} (h : RchK s n (facW s n).length m) (hm : m ≤ 3000) : Rch s n m := by
  refine ⟨fun e => h.z (by rw [e]; rfl), fun e => h.p (by
    rcases Nat.eq_zero_or_pos (facW s n).length with h0 | h0
    · exact absurd (List.eq_nil_of_length_eq_zero h0) e
    · exact h0), fun f hf => ?_, hm⟩
  obtain ⟨j, hj, e⟩ := List.mem_iff_getElem.1 hf
  exact h.met j f hj (by rw [List.getElem?_eq_getElem hj, e])
theorem maxI (a b : Int) : (if a < b then b else a) = max a b := by
  rcases Int.lt_or_le a b with h | h
  · rw [if_pos h]; omega
  · rw [if_neg (by omega)]; omega
set_option maxRecDepth 20000 in
set_option maxHeartbeats 8000000 in
theorem reachOf_i (s : ByteArray) (n : Nat) (w : World) (hw : wordL s.data.toList = true) (h1 : 1 ≤ n) (h2 : n ≤ 400) :
    Calls Try.prog 57 #[.string s, .int .i64 (n : Int)] w fun e w' => ∃ r : Nat, e = .returned (.int .i64 (r : Int)) ∧ Rch s n r ∧ Below w.heap.size w w' := by
  have hs4 := wordL_size hw
  have c1 := fun W => Lib.hid (isLength_c s n W hw h1 h2)
  have c2 := fun W => Lib.hid (factorsOf_c s n W (by omega) (by omega))
  have hfs := Lib.hid (fun x => @facW_size s x n)
  have hfl := facW_len s n
  have hps := Lib.hid (fun x => @plc_some s x n)
  have hst := Lib.hid (rchK_zero s n)
  have HSTEP := Lib.hid (fun k m q x => @rchK_step s n k m q x)
  have HEND := Lib.hid (fun m => @rchK_end s n m)
  obtain ⟨L, hL⟩ : ∃ L, L = facW s n := ⟨_, rfl⟩
  rw [← hL] at c2 hfs hfl hps HSTEP HEND
  clear hw hL
  go_enter Try.func57, Try.ntmps57
  go_wp2_with fail
  refine (c1 _).out.mono ?_
  rintro e w' ⟨rfl, rfl⟩
  go_wp2_with fail
  refine (c2 _).out.mono ?_
  rintro e w1 ⟨vL, rfl, hoL, hbL⟩
  have RL := Lib.hid hoL.rd
  obtain ⟨ga, cc, rfl, _⟩ := rdS_shape hoL.rd
  have HBL := Lib.hid hbL
  obtain ⟨N, hN⟩ : ∃ N, N = L.length := ⟨_, rfl⟩
  have HN := Lib.hid hN
  rw [← hN] at hfl ⊢
  have RL : Hid (RdS w1 (.slice ga N cc) L) := by unfold Hid; rw [hN]; exact RL.out
  clear hN hoL hbL c1 c2
  go_wp2_with fail
  go_loopw [5, 19] (fun y z wr => ∃ k m : Nat, z = .int .i64 (k : Int) ∧ k ≤ N ∧ y = .int .i64 (m : Int) ∧ m ≤ 3000 ∧ Hid (RchK s n k m) ∧ Below w1.heap.size w1 wr) (fun _ z _ => N - (intOf z).toNat)
  case atStart => exact ⟨0, 0, rfl, by omega, rfl, by omega, hst, Below.refl _ _⟩
  case round =>
    obtain ⟨k, m, rfl, hk, rfl, hm, hrk, hbr⟩ := hrel
    by_cases hlk : k < N
    · obtain ⟨x, hx⟩ : ∃ x, L[k]? = some x := ⟨_, List.getElem?_eq_getElem (by rw [← HN.out]; exact hlk)⟩
      obtain ⟨g, rfl, hcap, hcell⟩ := rdS_cell (RL.out.below hbr) hx
      have cx := hcell k x hx
      have hxm := List.mem_of_getElem? hx
      have hxs := hfs.out x hxm
      have hp1 := hps.out x hxm
      have b1 : (k : Int) < (N : Int) := by omega
      have hpl := Lib.hid (placesIn_i s x wr hs4 (by omega))
      have hbd := Lib.hid (fun j => @plc_bd s x j)
      have hpn := plcW_len s x
      have hmet := Lib.hid (fun r => @met_of s x r)
      obtain ⟨P, hP⟩ : ∃ P, P = plcW s x := ⟨_, rfl⟩
      rw [← hP] at hpl hbd hp1 hpn hmet
      have HX := Lib.hid hx
      have HXS := Lib.hid hxs
      rw [hxs] at hbd hmet
      clear hcell hx hxm hP hxs
      go_wp2_with fail
      refine hpl.out.mono ?_
      rintro e w2 ⟨vP, rfl, hoP, hbP⟩
      have HB2 := Lib.hid (hbr.trans (hbP.mono hbr.size))
      have RP := Lib.hid hoP.rd
      obtain ⟨gp, cp, rfl, _⟩ := rdI_shape hoP.rd
      obtain ⟨gq, hgq, hcp, hcellP⟩ := rdI_cell hoP.rd (show 0 < P.length by omega)
      subst hgq
      obtain ⟨NP, hNP⟩ : ∃ NP, NP = P.length := ⟨_, rfl⟩
      have HCP : Hid (∀ j, j < NP → w2.cell? ⟨gq, j, none⟩ = some (.int .i64 (gAt P j))) := by rw [hNP]; exact hcellP
      obtain ⟨l, hl⟩ : ∃ l, NP = l + 1 := ⟨NP - 1, by omega⟩
      have cp0 := HCP.out 0 (by omega)
      have cpl := HCP.out l (by omega)
      have hb0 := hbd.out 0 (by omega)
      have hbl := hbd.out l (by omega)
      have HNP := Lib.hid hNP
      rw [← hNP] at hp1 hpn hcp ⊢
      obtain ⟨a0, ha0⟩ : ∃ a0, a0 = gAt P 0 := ⟨_, rfl⟩
      obtain ⟨al, hal⟩ : ∃ al, al = gAt P l := ⟨_, rfl⟩
      rw [← ha0] at cp0 hb0
      rw [← hal] at cpl hbl
      have HA0 := Lib.hid ha0
      have HAL := Lib.hid hal
      have e1 : (NP : Int) - 1 = (l : Int) := by omega
      have e2 : (l : Int) < (NP : Int) := by omega
      have e3 : (0 : Int) < (NP : Int) := by omega
      have e4 : l < NP := by omega
      have e5 : 0 < NP := by omega
      have HL1 := Lib.hid hl
      have f1 : IntKind.i64.wrap (a0 + (n : Int)) = a0 + (n : Int) := IntWalk.i64_in _ (by omega)
      have f2 : IntKind.i64.wrap (a0 + (n : Int) - 1) = a0 + (n : Int) - 1 := IntWalk.i64_in _ (by omega)
      have f3 : IntKind.i64.wrap ((s.size : Int) - al) = (s.size : Int) - al := IntWalk.i64_in _ (by omega)
      have f4 : IntKind.i64.wrap ((s.size : Int) - al - 1) = (s.size : Int) - al - 1 := IntWalk.i64_in _ (by omega)
      have f5 : IntKind.i64.wrap (l : Int) = (l : Int) := IntWalk.i64_in _ (by omega)
      clear hoP hbP hcellP hpl hNP ha0 hal hl
      go_upto_region 8 with fail
      go_quiet (fail)
      go_wp2_with fail
      have hd0 : Hid (Below w1.heap.size w1 (w2.drewN nq)) := below_drewN HB2.out nq
      have HCD : Hid (∀ j, j < NP → (w2.drewN nq).cell? ⟨gq, j, none⟩ = some (.int .i64 (gAt P j))) := HCP.out
      obtain ⟨wo, hwo⟩ : ∃ wo, wo = w2.drewN nq := ⟨_, rfl⟩
      rw [← hwo] at hd0 HCD ⊢
      have g0 : a0 + (n : Int) - 1 ≤ max (a0 + (n : Int) - 1) ((s.size : Int) - al - 1) := by omega
      have g1 : (s.size : Int) - al - 1 ≤ max (a0 + (n : Int) - 1) ((s.size : Int) - al - 1) := by omega
      have g2 : max (a0 + (n : Int) - 1) ((s.size : Int) - al - 1) ≤ 2000 := by omega
      obtain ⟨M0, hM0⟩ : ∃ M0, M0 = max (a0 + (n : Int) - 1) ((s.size : Int) - al - 1) := ⟨_, rfl⟩
      rw [← hM0] at g0 g1 g2 ⊢
      clear hwo cp0 cpl hM0 f1 f2 f3 f4 f5 e1 e2 e3 e4 e5
      go_loopw [9, 10] (fun y z wi => ∃ (i d : Nat) (lg : Int), y = .int .i64 lg ∧ z = .int .i64 (i : Int) ∧ 1 ≤ i ∧ i ≤ NP ∧ a0 + (n : Int) - 1 ≤ lg ∧ (s.size : Int) - al - 1 ≤ lg ∧ lg ≤ 2000 ∧ Hid (∀ j, j + 1 < i → gAt P (j + 1) - gAt P j + (n : Int) - 2 ≤ lg) ∧ wi = wo.drewN d) (fun _ z _ => NP - (intOf z).toNat)
      case atStart => exact ⟨1, 0, M0, rfl, rfl, by omega, by omega, g0, g1, g2, fun j hj => by omega, rfl⟩
      case round =>
        obtain ⟨i, d, lg, rfl, rfl, hi1, hiN, q0, q1, q2, hgap, rfl⟩ := hrel
        by_cases hlt : i < NP
        · obtain ⟨t, ht⟩ : ∃ t, i = t + 1 := ⟨i - 1, by omega⟩
          have ci := HCD.out i hlt
          have ct := HCD.out t (by omega)
          have hbi := hbd.out i (by rw [← HNP.out]; omega)
          have hbt := hbd.out t (by rw [← HNP.out]; omega)
          obtain ⟨ai, hai⟩ : ∃ ai, ai = gAt P i := ⟨_, rfl⟩
          obtain ⟨at_, hat⟩ : ∃ at_, at_ = gAt P t := ⟨_, rfl⟩
          rw [← hai] at ci hbi
          rw [← hat] at ct hbt
          obtain ⟨v, hv⟩ : ∃ v, v = ai - at_ + (n : Int) - 2 := ⟨_, rfl⟩
          have HN2 : Hid (∀ j, j + 1 < i + 1 → gAt P (j + 1) - gAt P j + (n : Int) - 2 ≤ max lg v) := fun j hj => by
            rcases Nat.lt_or_ge (j + 1) i with h | h
            · have := hgap.out j h; omega
            · have : j = t := by omega
              subst this
              rw [← ht, ← hai, ← hat]; omega
          have r0 : a0 + (n : Int) - 1 ≤ max lg v := by omega
          have r1 : (s.size : Int) - al - 1 ≤ max lg v := by omega
          have r2 : max lg v ≤ 2000 := by omega
          have u1 : (i : Int) - 1 = (t : Int) := by omega
          have u2 : IntKind.i64.wrap (t : Int) = (t : Int) := IntWalk.i64_in _ (by omega)
          have u3 : (t : Int) < (NP : Int) := by omega
          have u4 : (i : Int) < (NP : Int) := by omega
          have u5 : t < NP := by omega
          have u6 : IntKind.i64.wrap (ai - at_) = ai - at_ := IntWalk.i64_in _ (by omega)
          have u7 : IntKind.i64.wrap (ai - at_ + (n : Int)) = ai - at_ + (n : Int) := IntWalk.i64_in _ (by omega)
          have u8 : ai - at_ + (n : Int) - 2 = v := hv.symm
          have u9 : IntKind.i64.wrap v = v := IntWalk.i64_in _ (by omega)
          have HT := Lib.hid ht
          clear ht hai hat hv
          go_wp2_with fail
          go_quiet (fail)
          go_wp2_with fail
          go_roundw
          case rel => exact ⟨i + 1, _, max lg v, rfl, by go_num, by omega, by omega, r0, r1, r2, HN2, rfl⟩
          case measure => simp [intOf] <;> omega
        · obtain rfl : i = NP := by omega
          have hd1 := Lib.hid (below_drewN hd0.out d)
          obtain ⟨q, hq⟩ : ∃ q : Nat, (q : Int) = lg + 1 := ⟨(lg + 1).toNat, by omega⟩
          have hM : Hid (Met s x (q : Int)) := hmet.out (q : Int) (by rw [← HNP.out]; exact hp1) (by rw [← HA0.out]; omega) (by rw [← HNP.out, HL1.out, Nat.add_sub_cancel, ← HAL.out]; omega) (fun j hj => by have := hgap.out j (by rw [HNP.out]; exact hj); omega)
          have hnx := Lib.hid (HSTEP.out k m q x hrk.out HX.out (by omega) hM.out)
          have hmx : max (m : Int) (lg + 1) = ((max m q : Nat) : Int) := by omega
          have hmb : max m q ≤ 3000 := by omega
          have b2 : decide ((i : Int) < (i : Int)) = false := decide_eq_false (by omega)
          have f6 : IntKind.i64.wrap (lg + 1) = lg + 1 := IntWalk.i64_in _ (by omega)
          obtain ⟨M1, hM1⟩ : ∃ M1 : Nat, M1 = max m q := ⟨_, rfl⟩
          rw [← hM1] at hnx hmx hmb
          clear hq hM1
          go_wp2_with fail
          go_roundw
          case rel => exact ⟨k + 1, M1, by go_num, by omega, rfl, hmb, hnx, hd1.out⟩
          case measure => simp [intOf] <;> omega
    · obtain rfl : k = N := by omega
      have hfin := Lib.hid (HEND.out m (by rw [← HN.out]; exact hrk.out) hm)
      have b1 : decide ((k : Int) < (k : Int)) = false := decide_eq_false (by omega)
      go_wp2_with fail
      go_ret
      exact ⟨m, rfl, hfin.out, HBL.out.trans (hbr.mono HBL.out.size)⟩
end Go.Proofs.Ytlmciomoimfajaa
