/- The walk of the law FnPeriods: it returns true. Conditions: the code's bytes can be read; the library's variable MaxLen holds a number. -/
import Derived.Test.YtlmciomoimfajaaQ8
namespace Go.Proofs.Ytlmciomoimfajaa
open Go.RowKit
set_option linter.unusedVariables false

set_option maxRecDepth 100000 in
set_option maxHeartbeats 20000000 in
theorem lawPeriods_w (a0 : Option Addr) (len0 cap0 : Nat) (z0 : List Int) (w : World) (w0 : IsRow .u8 w a0 len0 cap0 z0) {mx : Int} (hm : w.cell? ⟨0, 0, none⟩ = some (.int .i64 mx)) :
    Calls Try.prog 4 #[.slice a0 len0 cap0] w fun e w' => e = .returned (.bool true) ∧ Below w.heap.size w w' := by
  by_cases hbig : 1048576 < len0
  · have hd : decide ((1048576 : Int) < (len0 : Int)) = true := decide_eq_true (by omega)
    go_enter Try.func4, Try.ntmps4
    go_wp2
    go_ret
    exact ⟨rfl, Below.refl _ _⟩
  · have hd : decide ((1048576 : Int) < (len0 : Int)) = false := decide_eq_false (by omega)
    have hlen : len0 ≤ 1048576 := by omega
    have hmb := World.block_lt_of_cell? w _ hm
    have HM := Lib.hid (fun W (hb : Below w.heap.size w W) => show W.cell? ⟨0, 0, none⟩ = some (.int .i64 mx) by rw [hb.cell (p := ⟨0, 0, none⟩) hmb]; exact hm)
    have HR := Lib.hid (fun W (hb : Below w.heap.size w W) => w0.keep hb)
    have c1 := Lib.hid (makeWord_c a0 len0 cap0 z0 0 14 w w0 hlen (by omega) (by omega))
    clear hm w0 hbig hmb
    go_enter Try.func4, Try.ntmps4
    go_wp2_with fail
    refine c1.out.mono ?_
    rintro e w1 ⟨s, rfl, hs, hlet, hb1⟩
    have HB1 := Lib.hid hb1
    have HS := Lib.hid (letL_word hlet (by omega) (by rw [← size_len]; omega))
    have c2 := Lib.hid (bordersOf_i s w1 (by omega))
    obtain ⟨B, hB⟩ : ∃ B, B = borW s := ⟨_, rfl⟩
    rw [← hB] at c2
    have HBe := Lib.hid hB
    clear c1 hlet hb1 hB
    go_wp2_with fail
    refine c2.out.mono ?_
    rintro e w2 ⟨vB, rfl, oB, bB⟩
    have HB2 := Lib.hid (HB1.out.trans (bB.mono HB1.out.size))
    have RB := Lib.hid oB.rd
    obtain ⟨gb, cb, hvB, _⟩ := rdI_shape RB.out
    subst hvB
    have c3 := Lib.hid (periodsOf_i s w2 (by omega))
    obtain ⟨P, hP⟩ : ∃ P, P = perW s := ⟨_, rfl⟩
    rw [← hP] at c3
    have HPe := Lib.hid hP
    clear c2 oB bB HB1 hP
    go_wp2_with fail
    refine c3.out.mono ?_
    rintro e w3 ⟨vP, rfl, oP, bP⟩
    have HB3 := Lib.hid (HB2.out.trans (bP.mono HB2.out.size))
    have RB3 := Lib.hid (RB.out.below bP)
    have RP := Lib.hid oP.rd
    obtain ⟨gp, cp, hvP, _⟩ := rdI_shape RP.out
    subst hvP
    -- the plain facts
    have hlenP := Lib.hid (fun h1 : 1 ≤ s.size => per_len HS.out h1)
    have hatP := Lib.hid (fun (h1 : 1 ≤ s.size) i (hi : i < (borW s).length) => per_at HS.out h1 hi)
    have hlastP := Lib.hid (fun h1 : 1 ≤ s.size => per_last HS.out h1)
    have hascP := Lib.hid (asc_gAt (per_asc s))
    have hapf := Lib.hid (fun x y (hx : x ∈ perW s) (hy : y ∈ perW s) => apf_all HS.out hx hy)
    have hfirst := Lib.hid (fun h1 : 1 ≤ s.size => lp_first HS.out h1)
    have hnone := Lib.hid (fun h0 : s.size = 0 => per_none h0)
    have hpbd := Lib.hid (fun x (hx : x ∈ perW s) => show 0 ≤ x ∧ x ≤ 14 by obtain ⟨k, rfl, k1, k2, _⟩ := per_mem hx; omega)
    have hbbd := Lib.hid (fun x (hx : x ∈ borW s) => show 0 ≤ x ∧ x ≤ 14 by have := bor_mem hx; omega)
    have hNBs := Lib.hid (borW_len s)
    have hNPs := Lib.hid (perW_len s)
    rw [← HPe.out] at hlenP hatP hlastP hascP hapf hfirst hnone hpbd hNPs
    rw [← HBe.out] at hlenP hatP hlastP hnone hbbd hNBs
    obtain ⟨NB, hNB⟩ : ∃ NB, NB = B.length := ⟨_, rfl⟩
    obtain ⟨NP, hNP⟩ : ∃ NP, NP = P.length := ⟨_, rfl⟩
    have hsz0 : s.size = 0 → NP = 0 ∧ NB = 0 := fun h => by have := hnone.out h; rw [hNP, hNB, this.1, this.2]; exact ⟨rfl, rfl⟩
    have hsz1 : 1 ≤ s.size → NP = NB + 1 := fun h => by rw [hNP, hNB]; exact hlenP.out h
    have hNBb : NB ≤ s.size := by rw [hNB]; exact hNBs.out
    have hNPb : NP ≤ s.size := by rw [hNP]; exact hNPs.out
    rw [← hNB, ← hNP]
    have HNB := Lib.hid hNB
    have HNP := Lib.hid hNP
    have HZ0 := Lib.hid hsz0
    have HZ1 := Lib.hid hsz1
    clear c3 oP bP HB2 RB hNB hNP hsz0 hsz1 hNBs hNPs hlenP
    go_upto_region 7 with fail
    go_cut [55] from 37 to 55 (fun s55 wx => s55 = .bool false ∧ wx = w3)
    case first =>
      rcases Nat.eq_zero_or_pos s.size with h0 | h1
      · obtain ⟨rfl, rfl⟩ := HZ0.out h0
        have d1 : decide ((0 : Int) < (s.size : Int)) = false := decide_eq_false (by omega)
        have d2 : ((s.size : Int) == 0) = true := beq_iff_eq.2 (by omega)
        have d1n : ¬ 0 < s.size := by omega
        have H0 := Lib.hid h0
        clear h0
        go_wp2_with fail
        go_meet
        case rel => exact ⟨rfl, rfl⟩
      · have h2 := HZ1.out h1
        have d1 : decide ((0 : Int) < (s.size : Int)) = true := decide_eq_true (by omega)
        have d2 : ((s.size : Int) == 0) = false := beq_eq_false_iff_ne.2 (by omega)
        have d3 : (NB : Int) + 1 = (NP : Int) := by omega
        have d4 : ((NP : Int) != (NP : Int)) = false := by simp
        have H2 := Lib.hid h2
        clear h2
        go_wp2_with fail
        go_meet
        case rel => exact ⟨rfl, rfl⟩
    case rest =>
      obtain ⟨rfl, hwc⟩ := hcut
      obtain rfl : w3 = wc := hwc.symm
      go_wp2_with fail
      go_loopw [58] (fun z wr => ∃ k : Nat, z = .int .i64 (k : Int) ∧ k ≤ NP ∧ Below w3.heap.size w3 wr) (fun z _ => NP - (intOf z).toNat)
      case atStart => exact ⟨0, rfl, by omega, Below.refl _ _⟩
      case round =>
        obtain ⟨k, rfl, hk, hbr⟩ := hrel
        by_cases hlt : k < NP
        · have hkP : k < P.length := by rw [← HNP.out]; exact hlt
          obtain ⟨g, rfl, hcp, hcell⟩ := rdI_at (RP.out.below hbr) hkP
          rw [← HNP.out] at hcp
          have hc0 := hcell k hkP
          have hs1 : 1 ≤ s.size := by
            rcases Nat.eq_zero_or_pos s.size with h | h
            · have := (HZ0.out h).1; omega
            · exact h
          have hNP1 := HZ1.out hs1
          have hxb := hpbd.out _ (gAt_mem hkP)
          have HC := Lib.hid hcell
          have HKP := Lib.hid hkP
          have b0 : (k : Int) < (NP : Int) := by omega
          clear hcell hkP
          obtain ⟨x, hx⟩ : ∃ x, x = gAt P k := ⟨_, rfl⟩
          have HX := Lib.hid hx
          rw [← hx] at hc0 hxb
          have HS1 := Lib.hid hs1
          have HNP1 := Lib.hid hNP1
          have hNBle : k ≤ NB := by omega
          clear hx hs1 hNP1
          go_upto_region 12 with fail
          go_cut [104] from 63 to 104 (fun s104 wx => s104 = .bool false ∧ wx = wr)
          case first =>
            by_cases hkB : k < NB
            · have hkB2 : k < B.length := by rw [← HNB.out]; exact hkB
              have hat := hatP.out HS1.out k hkB2
              obtain ⟨j, hj⟩ : ∃ j : Nat, j + 1 + k = NB := ⟨NB - 1 - k, by omega⟩
              rw [← HNB.out, show NB - 1 - k = j by omega, ← HX.out] at hat
              obtain ⟨g2, rfl, hcb, hcell2⟩ := rdI_at (RB3.out.below hbr) hkB2
              have hjB : j < B.length := by rw [← HNB.out]; omega
              have hc1 := hcell2 j hjB
              have hyb := hbbd.out _ (gAt_mem hjB)
              generalize gAt B j = y at hc1 hat hyb
              have e1 : (NB : Int) - 1 - (k : Int) = (j : Int) := by omega
              have e2 : ((s.size : Int) != (s.size : Int)) = false := by simp
              have b1 : (k : Int) < (NB : Int) := by omega
              have b2 : ((k : Int) == (NB : Int)) = false := by simp; omega
              have b3 : (j : Int) < (NB : Int) := by omega
              have hj2 := Lib.hid hj
              clear hkB2 hcell2 hjB hj
              by_cases hk0 : 0 < k
              · obtain ⟨i, hi⟩ : ∃ i : Nat, k = i + 1 := ⟨k - 1, by omega⟩
                have hci := HC.out i (by have := HKP.out; omega)
                have hlt2 := hascP.out i k (by omega) HKP.out
                have hib := hpbd.out _ (gAt_mem (show i < P.length by have := HKP.out; omega))
                rw [← HX.out] at hlt2
                generalize gAt P i = z at hci hlt2 hib
                have e3 : (k : Int) - 1 = (i : Int) := by omega
                have b4 : (i : Int) < (NP : Int) := by omega
                have b5 : decide ((0 : Int) < (k : Int)) = true := decide_eq_true (by omega)
                have b6 : decide (x ≤ z) = false := decide_eq_false (by omega)
                have HI := Lib.hid hi
                clear hi
                go_wp2_with fail
                go_meet
                case rel => exact ⟨rfl, rfl⟩
              · have b5 : decide ((0 : Int) < (k : Int)) = false := decide_eq_false (by omega)
                go_wp2_with fail
                go_meet
                case rel => exact ⟨rfl, rfl⟩
            · obtain rfl : k = NB := by omega
              have hla := hlastP.out HS1.out
              rw [← HNB.out, ← HX.out] at hla
              have e2 : (x != (s.size : Int)) = false := by simp; exact hla
              have b1 : decide ((k : Int) < (k : Int)) = false := decide_eq_false (by omega)
              have b2 : ((k : Int) == (k : Int)) = true := by simp
              have HLA := Lib.hid hla
              clear hla
              by_cases hk0 : 0 < k
              · obtain ⟨i, hi⟩ : ∃ i : Nat, k = i + 1 := ⟨k - 1, by omega⟩
                have hci := HC.out i (by have := HKP.out; omega)
                have hlt2 := hascP.out i k (by omega) HKP.out
                have hib := hpbd.out _ (gAt_mem (show i < P.length by have := HKP.out; omega))
                rw [← HX.out] at hlt2
                generalize gAt P i = z at hci hlt2 hib
                have e3 : (k : Int) - 1 = (i : Int) := by omega
                have b4 : (i : Int) < (NP : Int) := by omega
                have b5 : decide ((0 : Int) < (k : Int)) = true := decide_eq_true (by omega)
                have b6 : decide (x ≤ z) = false := decide_eq_false (by omega)
                have HI := Lib.hid hi
                clear hi
                go_wp2_with fail
                go_meet
                case rel => exact ⟨rfl, rfl⟩
              · have b5 : decide ((0 : Int) < (k : Int)) = false := decide_eq_false (by omega)
                go_wp2_with fail
                go_meet
                case rel => exact ⟨rfl, rfl⟩
          case rest =>
            obtain ⟨rfl, hwc⟩ := hcut
            obtain rfl : wr = wc := hwc.symm
            obtain ⟨wo, rfl⟩ : ∃ wo : World, wo = wr := ⟨_, rfl⟩
            have b9 : k ≤ NP := by omega
            have hmem := Lib.hid (gAt_mem HKP.out)
            rw [← HX.out] at hmem
            go_wp2_with fail
            go_loopw [109] (fun z wi => ∃ t : Nat, z = .int .i64 (t : Int) ∧ t ≤ k ∧ Below w3.heap.size w3 wi) (fun z _ => k - (intOf z).toNat)
            case atStart => exact ⟨0, rfl, by omega, hbr⟩
            case round =>
              obtain ⟨t, rfl, ht, hbi⟩ := hrel
              by_cases htk : t < k
              · have htP : t < P.length := by have := HKP.out; omega
                obtain ⟨g3, hg3, _, hcell3⟩ := rdI_at (RP.out.below hbi) htP
                obtain rfl : g3 = g := by cases hg3; rfl
                have hct := hcell3 t htP
                have hmt := gAt_mem htP
                have hcall := Lib.hid (allPeriodsFine_i s x (gAt P t) wr (by omega))
                rw [hapf.out x _ hmem.out hmt] at hcall
                obtain ⟨y, hy⟩ : ∃ y, y = gAt P t := ⟨_, rfl⟩
                rw [← hy] at hct hcall hmt
                clear hy
                have c1 : (t : Int) < (k : Int) := by omega
                clear hcell3 hmt hg3
                go_wp2_with fail
                refine hcall.out.mono ?_
                rintro e w' ⟨rfl, hbc⟩
                have HBC := Lib.hid (hbi.trans (hbc.mono hbi.size))
                clear hbc hcall
                go_wp2_with fail
                go_roundw
                case rel => exact ⟨t + 1, by go_num, by omega, HBC.out⟩
                case measure => simp [intOf] <;> omega
              · obtain rfl : t = k := by omega
                go_wp2_with fail
                go_roundw
                case rel => exact ⟨t + 1, by go_num, by omega, hbi⟩
                case measure => simp [intOf] <;> omega
        · have b0 : ¬ (k : Int) < (NP : Int) := by omega
          have b1 : decide (k < NP) = false := decide_eq_false hlt
          have HBr := Lib.hid (HB3.out.trans (hbr.mono HB3.out.size))
          have RPr := Lib.hid (RP.out.below hbr)
          clear hbr RP RB3 HB3 hapf hatP hlastP hascP hbbd hpbd hnone
          go_upto_region 21 with fail
          go_cut [129] from 120 to 129 (fun s129 wx => s129 = .bool false ∧ Below w.heap.size w wx)
          case first =>
            rcases Nat.eq_zero_or_pos s.size with h0 | h1
            · have d1 : ¬ 0 < s.size := by omega
              have d2 : decide (0 < s.size) = false := decide_eq_false d1
              have d3 : decide ((0 : Int) < (s.size : Int)) = false := decide_eq_false (by omega)
              have H0 := Lib.hid h0
              clear h0
              go_quiet (fail)
              go_wp2_with fail
              go_meet
              case rel => exact ⟨rfl, below_drewN HBr.out _⟩
            · have h2 := HZ1.out h1
              obtain ⟨g, hg, hcp, hcell⟩ := rdI_at RPr.out (show 0 < P.length by rw [← HNP.out]; omega)
              subst hg
              have hc0 := hcell 0 (by rw [← HNP.out]; omega)
              have hcall := Lib.hid (fun d => show Calls Try.prog 30 #[.string s] (wr.drewN d) fun e w' => e = .returned (.int .i64 (gAt P 0)) ∧ ∃ n, w' = (wr.drewN d).drewN n by
                have := leastPeriod_i s (wr.drewN d) (by omega)
                rw [hfirst.out h1] at this; exact this)
              generalize gAt P 0 = x at hc0 hcall
              have d2 : decide (0 < s.size) = true := decide_eq_true h1
              have d3 : decide ((0 : Int) < (s.size : Int)) = true := decide_eq_true (by omega)
              have d4 : (x != x) = false := by simp
              have d5 : 0 < NP := by omega
              have d6 : (0 : Int) < (NP : Int) := by omega
              rw [← HNP.out] at hcp
              clear hcell h2
              go_quiet ((go_at_call 30; exact Calls.quiet_of (hcall.out _)))
              go_wp2_with fail
              go_meet
              case rel => exact ⟨rfl, below_drewN HBr.out _⟩
          case rest =>
            obtain ⟨rfl, hbc⟩ := hcut
            have HB4 := Lib.hid hbc
            have c4 := Lib.hid (rootOf_i s wc (by omega))
            obtain ⟨K, hK, hKs, hag, hroot, hrw, hK0, hrl⟩ := root_nat s HS.out
            obtain ⟨r, hr⟩ : ∃ r, r = rootS s := ⟨_, rfl⟩
            rw [hK, ← hr] at c4
            rw [← hr] at hag hroot hrw hrl
            have HAG := Lib.hid hag
            have HRT := Lib.hid hroot
            have HRW := Lib.hid hrw
            have HRL := Lib.hid hrl
            have HK := Lib.hid hK
            have HK0 := Lib.hid hK0
            have hst : Hid (St [] = St (repL r.data.toList 0)) := rfl
            clear hbc HBr RPr hfirst hK hr hag hroot hrw hrl hK0
            go_wp2_with fail
            refine c4.out.mono ?_
            rintro e w5 ⟨rfl, d5, hw5⟩
            have HB5 : Hid (Below w.heap.size w w5) := by rw [hw5]; exact below_drewN HB4.out d5
            clear c4 hw5 HB4
            go_wp2_with fail
            go_loop [13, 14] (fun y z => ∃ i : Nat, z = .int .i64 (i : Int) ∧ i ≤ K ∧ y = .string (St (repL r.data.toList i))) (fun _ z => K - (intOf z).toNat)
            case atStart => exact ⟨0, rfl, by omega, rfl⟩
            case round =>
              obtain ⟨i, rfl, hi, rfl⟩ := hrel
              have hil := HRL.out i hi
              by_cases hiK : i < K
              · have hil2 := HRL.out (i + 1) hiK
                have b2 : (i : Int) < (K : Int) := by omega
                have b3 : (i : Int) < 20 := by omega
                have hstep := rep_step r i
                have hz : (St (repL r.data.toList i)).size + r.size ≤ 14 := by
                  have e : (repL r.data.toList (i + 1)).length = (repL r.data.toList i).length + r.data.toList.length := by rw [repL, List.length_append]
                  rw [St_size, size_len r]; omega
                obtain ⟨y, hy⟩ : ∃ y, y = St (repL r.data.toList i) := ⟨_, rfl⟩
                rw [← hy] at hstep hz ⊢
                clear hy
                go_wp2_with fail
                go_round
                case rel => exact ⟨i + 1, by go_num, by omega, rfl⟩
                case measure => simp [intOf] <;> omega
              · obtain rfl : i = K := by omega
                have hsy : St (repL r.data.toList i) = s := by rw [HAG.out, St_of]
                rw [hsy]
                have b2 : decide ((i : Int) < (i : Int)) = false := decide_eq_false (by omega)
                clear hsy
                go_upto_region 29 with fail
                go_cut [169] from 147 to 169 (fun s169 wx => s169 = .bool false ∧ Below w.heap.size w wx)
                case first =>
                  have e0 : (s.toList != s.toList) = false := by simp
                  have hp1 := Lib.hid (fun W => show Calls Try.prog 32 #[.string s] W fun e w' => e = .returned (.bool ((i : Int) == 1)) ∧ ∃ d, w' = W.drewN d by
                    have := isPrimitive_i s W (by omega)
                    rw [HK.out] at this; exact this)
                  rcases Nat.eq_zero_or_pos s.size with h0 | h1
                  · have hi0 := HK0.out h0
                    have d1 : ¬ 0 < s.size := by omega
                    have d2 : decide (0 < s.size) = false := decide_eq_false d1
                    have d3 : decide ((0 : Int) < (s.size : Int)) = false := decide_eq_false (by omega)
                    have d4 : ((i : Int) == 1) = false := beq_eq_false_iff_ne.2 (by omega)
                    rw [d4] at hp1
                    have H0 := Lib.hid h0
                    have HI0 := Lib.hid hi0
                    clear h0 hi0
                    go_wp2_with fail
                    refine (hp1.out _).mono ?_
                    rintro e w6 ⟨rfl, d6, hw6⟩
                    have HB6 : Hid (Below w.heap.size w w6) := by rw [hw6]; exact below_drewN HB5.out d6
                    clear hw6
                    go_wp2_with fail
                    go_meet
                    case rel => exact ⟨rfl, HB6.out⟩
                  · obtain ⟨hi1, hr1⟩ := HRT.out h1
                    have d2 : 0 < s.size := h1
                    have d3 : decide ((0 : Int) < (s.size : Int)) = true := decide_eq_true (by omega)
                    have d5 : decide ((i : Int) < 1) = false := decide_eq_false (by omega)
                    have hp2 := Lib.hid (fun W => show Calls Try.prog 32 #[.string r] W fun e w' => e = .returned (.bool true) ∧ ∃ d, w' = W.drewN d by
                      have := isPrimitive_i r W (by have := wordL_size HRW.out; omega)
                      rw [hr1] at this; exact this)
                    clear hr1
                    cases d4 : ((i : Int) == 1)
                    · rw [d4] at hp1
                      go_wp2_with fail
                      refine (hp1.out _).mono ?_
                      rintro e w6 ⟨rfl, d6, hw6⟩
                      have HB6 : Hid (Below w.heap.size w w6) := by rw [hw6]; exact below_drewN HB5.out d6
                      clear hw6
                      go_wp2_with fail
                      refine (hp2.out _).mono ?_
                      rintro e w7 ⟨rfl, d7, hw7⟩
                      have HB7 : Hid (Below w.heap.size w w7) := by rw [hw7]; exact below_drewN HB6.out d7
                      clear hw7
                      go_wp2_with fail
                      go_meet
                      case rel => exact ⟨rfl, HB7.out⟩
                    · rw [d4] at hp1
                      go_wp2_with fail
                      refine (hp1.out _).mono ?_
                      rintro e w6 ⟨rfl, d6, hw6⟩
                      have HB6 : Hid (Below w.heap.size w w6) := by rw [hw6]; exact below_drewN HB5.out d6
                      clear hw6
                      go_wp2_with fail
                      refine (hp2.out _).mono ?_
                      rintro e w7 ⟨rfl, d7, hw7⟩
                      have HB7 : Hid (Below w.heap.size w w7) := by rw [hw7]; exact below_drewN HB6.out d7
                      clear hw7
                      go_wp2_with fail
                      go_meet
                      case rel => exact ⟨rfl, HB7.out⟩
                case rest =>
                  obtain ⟨rfl, hbc⟩ := hcut
                  have HB7 := Lib.hid hbc
                  have c7 := Lib.hid (lyndonParts_i s wc (by omega))
                  obtain ⟨L, hL⟩ : ∃ L, L = partsW s := ⟨_, rfl⟩
                  rw [← hL] at c7
                  have HLe := Lib.hid hL
                  clear hbc HB5 HRT HRW HRL HAG hL
                  go_wp2_with fail
                  refine c7.out.mono ?_
                  rintro e w8 ⟨vL, rfl, oL, bL⟩
                  have HB8 := Lib.hid (HB7.out.trans (bL.mono HB7.out.size))
                  have RL := Lib.hid oL.rd
                  obtain ⟨gl, cl, hvL⟩ := rdS_shape RL.out
                  subst hvL
                  have hcat := Lib.hid (parts_cat HS.out)
                  have hcle := Lib.hid (cat_le HS.out)
                  have hlyn := Lib.hid (fun x (hx : x ∈ partsW s) => parts_lyn HS.out hx)
                  have hdown := Lib.hid (fun k x y => @parts_down s k x y)
                  have hone := Lib.hid (parts_one HS.out)
                  have hLs := Lib.hid (partsW_len s)
                  rw [← HLe.out] at hcat hcle hlyn hdown hone hLs
                  obtain ⟨NL, hNL⟩ : ∃ NL, NL = L.length := ⟨_, rfl⟩
                  have HNL := Lib.hid hNL
                  have hNLb : NL ≤ s.size + 1 := by rw [hNL]; exact hLs.out
                  rw [← hNL]
                  have hst2 : Hid ((⟨#[]⟩ : ByteArray) = St (catS (L.take 0))) := by simp [Hid, catS, St]
                  clear c7 oL bL HB7 hNL hLs
                  go_wp2_with fail
                  go_loopw [16, 174] (fun y z wr => ∃ (t : Nat) (a : ByteArray), z = .int .i64 (t : Int) ∧ t ≤ NL ∧ y = .string a ∧ Hid (a = St (catS (L.take t))) ∧ Below w8.heap.size w8 wr) (fun _ z _ => NL - (intOf z).toNat)
                  case atStart => exact ⟨0, _, rfl, by omega, rfl, hst2, Below.refl _ _⟩
                  case round =>
                    obtain ⟨t, a, rfl, ht, rfl, ha, hbr⟩ := hrel
                    by_cases htN : t < NL
                    · obtain ⟨x, hx⟩ : ∃ x, L[t]? = some x := ⟨_, List.getElem?_eq_getElem (by rw [← HNL.out]; exact htN)⟩
                      obtain ⟨g, rfl, hcl, hcell⟩ := rdS_at (RL.out.below hbr) hx
                      have hc0 := hcell t x hx
                      obtain ⟨hly, _, hxs⟩ := hlyn.out x (List.mem_of_getElem? hx)
                      have hstep := cat_step hx
                      have hlen2 := hcle.out (t + 1)
                      have hstz := congrArg ByteArray.size hstep
                      rw [ByteArray.size_append, St_size, St_size] at hstz
                      have haz : a.size + x.size ≤ 14 := by rw [ha.out, St_size]; omega
                      have HST : Hid (a ++ x = St (catS (L.take (t + 1)))) := by unfold Hid; rw [ha.out]; exact hstep
                      have hcall := Lib.hid (isLyndon_i x wr (by omega))
                      rw [hly] at hcall
                      have HX := Lib.hid hx
                      have HCE := Lib.hid hcell
                      have b2 : (t : Int) < (NL : Int) := by omega
                      obtain ⟨y2, hy2⟩ : ∃ y2, y2 = a ++ x := ⟨_, rfl⟩
                      have hay : a ++ x = y2 := hy2.symm
                      rw [← hy2] at HST
                      clear hx hcell hstep hstz hlen2 hly hy2
                      by_cases ht0 : 0 < t
                      · obtain ⟨j, hj⟩ : ∃ j : Nat, j + 1 = t := ⟨t - 1, by omega⟩
                        obtain ⟨y, hy⟩ : ∃ y, L[j]? = some y := ⟨_, List.getElem?_eq_getElem (by rw [← HNL.out]; omega)⟩
                        have hc1 := HCE.out j y hy
                        have hdn := hdown.out j y x hy (by rw [hj]; exact HX.out)
                        have e3 : (t : Int) - 1 = (j : Int) := by omega
                        have b4 : (j : Int) < (NL : Int) := by omega
                        have b5 : decide ((0 : Int) < (t : Int)) = true := decide_eq_true (by omega)
                        have HJ := Lib.hid hj
                        have HY := Lib.hid hy
                        clear hj hy
                        go_wp2_with fail
                        refine hcall.out.mono ?_
                        rintro e w' ⟨rfl, hbc⟩
                        have HBC := Lib.hid (hbr.trans (hbc.mono hbr.size))
                        have hc2 : w'.cell? ⟨g, j, none⟩ = some (.string y) := by
                          rw [hbc.cell (p := ⟨g, j, none⟩) (World.block_lt_of_cell? wr _ hc1)]; exact hc1
                        clear hbc hcall hc0 hc1
                        go_wp2_with fail
                        go_roundw
                        case rel => exact ⟨t + 1, y2, by go_num, by omega, rfl, HST, HBC.out⟩
                        case measure => simp [intOf] <;> omega
                      · have b5 : decide ((0 : Int) < (t : Int)) = false := decide_eq_false (by omega)
                        go_wp2_with fail
                        refine hcall.out.mono ?_
                        rintro e w' ⟨rfl, hbc⟩
                        have HBC := Lib.hid (hbr.trans (hbc.mono hbr.size))
                        clear hbc hcall hc0
                        go_wp2_with fail
                        go_roundw
                        case rel => exact ⟨t + 1, y2, by go_num, by omega, rfl, HST, HBC.out⟩
                        case measure => simp [intOf] <;> omega
                    · have b2 : decide ((t : Int) < (NL : Int)) = false := decide_eq_false (by omega)
                      have has : a = s := by
                        rw [ha.out, List.take_of_length_le (by rw [← HNL.out]; omega), hcat.out, St_of]
                      subst has
                      have HB9 := Lib.hid (HB8.out.trans (hbr.mono HB8.out.size))
                      have hl1 := Lib.hid (fun W => isLyndon_i a W (by omega))
                      rw [hone.out, ← HNL.out] at hl1
                      have e0 : (a.toList != a.toList) = false := by simp
                      clear hbr HB8 RL hcat hcle hlyn hdown hone ha
                      go_upto_region 40 with fail
                      go_cut [209] from 199 to 209 (fun s209 wx => s209 = .bool false ∧ Below w.heap.size w wx)
                      case first =>
                        by_cases hN1 : NL = 1
                        · have d1 : ((NL : Int) == 1) = true := beq_iff_eq.2 (by omega)
                          rw [decide_eq_true (show (NL : Int) = 1 by omega)] at hl1
                          have HN1 := Lib.hid hN1
                          clear hN1
                          go_wp2_with fail
                          refine (hl1.out _).mono ?_
                          rintro e w' ⟨rfl, hbc⟩
                          have HBC := Lib.hid (HB9.out.trans (hbc.mono HB9.out.size))
                          clear hbc
                          go_wp2_with fail
                          go_meet
                          case rel => exact ⟨rfl, HBC.out⟩
                        · have d1 : ((NL : Int) == 1) = false := beq_eq_false_iff_ne.2 (by omega)
                          rw [decide_eq_false (show ¬ (NL : Int) = 1 by omega)] at hl1
                          go_wp2_with fail
                          refine (hl1.out _).mono ?_
                          rintro e w' ⟨rfl, hbc⟩
                          have HBC := Lib.hid (HB9.out.trans (hbc.mono HB9.out.size))
                          clear hbc
                          go_wp2_with fail
                          go_meet
                          case rel => exact ⟨rfl, HBC.out⟩
                      case rest =>
                        obtain ⟨rfl, hbc⟩ := hcut
                        have HB10 := Lib.hid hbc
                        clear hbc HB9 hl1
                        go_upto_if 211 with fail
                        go_cut [] from 211 to 241 (fun wx => Below w.heap.size w wx)
                        case first =>
                          rcases Nat.eq_zero_or_pos a.size with h0 | h1
                          · have d1 : ¬ 0 < a.size := by omega
                            have d2 : decide (0 < a.size) = false := decide_eq_false d1
                            have d3 : decide ((0 : Int) < (a.size : Int)) = false := decide_eq_false (by omega)
                            have H0 := Lib.hid h0
                            clear h0
                            go_wp2_with fail
                            go_meet
                            case rel => exact HB10.out
                          · have d2 : 0 < a.size := h1
                            have d3 : decide ((0 : Int) < (a.size : Int)) = true := decide_eq_true (by omega)
                            obtain ⟨l1, _⟩ := lsGo_spec a a.size h1
                            have hls : lsW a = ((lsGo a a.size : Nat) : Int) := by
                              have hok : rootOk a = true := by unfold rootOk; rw [HS.out, isEmpty_no h1]; rfl
                              unfold lsW; rw [if_pos hok]
                            have hly := least_lyn HS.out h1
                            have hle := least_le h1
                            have hcj := conj_rot HS.out (k := lsGo a a.size) (by omega)
                            have hvz := rot_len a (k := lsGo a a.size) (by omega)
                            have hs1 := Lib.hid (fun W => leastShift_i a W (by omega))
                            rw [hls] at hs1
                            rw [HK.out] at hly
                            obtain ⟨m, hm⟩ : ∃ m, m = lsGo a a.size := ⟨_, rfl⟩
                            rw [← hm] at hs1 hly hle hcj l1 hvz
                            have hs2 := Lib.hid (fun W => shiftWord_c a m W HS.out (by omega))
                            obtain ⟨v, hv⟩ : ∃ v, v = rotS a m := ⟨_, rfl⟩
                            rw [← hv] at hs2 hly hle hcj hvz
                            have hs3 := Lib.hid (fun W => isLyndon_i v W (by omega))
                            have hs4 := Lib.hid (fun W (hW : Below w.heap.size w W) => areConjugate_i a v mx W (HM.out W hW) (by omega) (by omega))
                            rw [hly] at hs3
                            rw [hcj] at hs4
                            have d5 : decide ((m : Int) < 0) = false := decide_eq_false (by omega)
                            have d6 : decide (a.size ≤ m) = false := decide_eq_false (by omega)
                            have d7 : ¬ a.size ≤ m := by omega
                            have HVZ := Lib.hid hvz
                            clear hls hly hcj hm hv hvz
                            rw [show decide ((i : Int) = 1) = ((i : Int) == 1) from rfl] at hs3
                            have key : Op.bytesLess v.toList a.toList = true ∨ (Op.bytesLess v.toList a.toList = false ∧ (v.toList == a.toList) = true) := by
                              cases g1 : Op.bytesLess v.toList a.toList with
                              | true => exact .inl rfl
                              | false =>
                                refine .inr ⟨rfl, ?_⟩
                                have t1 := bl_tri v.toList a.toList (by rw [Lib.toList_data, Lib.toList_data, ← size_len, ← size_len]; exact HVZ.out)
                                cases g2 : (v.toList == a.toList) with
                                | true => rfl
                                | false =>
                                  have t2 := t1.2 ⟨hle, by rw [beq_eq_false_iff_ne] at g2 ⊢; exact fun e => g2 e.symm⟩
                                  rw [g1] at t2; cases t2
                            clear hle
                            rcases key with g1 | ⟨g1, g2⟩ <;> cases d8 : ((i : Int) == 1) <;> rw [d8] at hs3
                            all_goals
                              go_wp2_with fail
                              refine (hs1.out _).mono ?_
                              rintro e w1 ⟨rfl, b1⟩
                              have K1 := Lib.hid (HB10.out.trans (b1.mono HB10.out.size))
                              clear b1
                              go_wp2_with fail
                              refine (hs2.out _).mono ?_
                              rintro e w2 ⟨rfl, dd, hw2⟩
                              have K2 : Hid (Below w.heap.size w w2) := by rw [hw2]; exact below_drewN K1.out dd
                              clear hw2
                              go_wp2_with fail
                              refine (hs3.out _).mono ?_
                              rintro e w3 ⟨rfl, b3⟩
                              have K3 := Lib.hid (K2.out.trans (b3.mono K2.out.size))
                              clear b3
                              go_wp2_with fail
                              refine (hs4.out _ K3.out).mono ?_
                              rintro e w4 ⟨rfl, rfl⟩
                              go_wp2_with fail
                              go_meet
                              case rel => exact K3.out
                        case rest =>
                          have HB11 := Lib.hid hcut
                          have c1 := Lib.hid (makeSize_c a0 len0 cap0 z0 30 1 3 wc (HR.out wc hcut) hlen (by omega) (by omega) (by omega) (by omega))
                          clear hcut HB10
                          go_wp2_with fail
                          refine c1.out.mono ?_
                          rintro e w1 ⟨k1, rfl, k2, k3, b1⟩
                          obtain ⟨lt, rfl⟩ : ∃ lt : Nat, k1 = (lt : Int) := ⟨k1.toNat, by omega⟩
                          have HB12 := Lib.hid (HB11.out.trans (b1.mono HB11.out.size))
                          have c2 := Lib.hid (makeSize_c a0 len0 cap0 z0 31 1 4 w1 (HR.out w1 HB12.out) hlen (by omega) (by omega) (by omega) (by omega))
                          have lt1 : 1 ≤ lt := by omega
                          have lt3 : lt ≤ 3 := by omega
                          clear c1 b1 HB11 k2 k3
                          go_wp2_with fail
                          refine c2.out.mono ?_
                          rintro e w2 ⟨k1, rfl, k2, k3, b1⟩
                          obtain ⟨m, rfl⟩ : ∃ m : Nat, k1 = (m : Int) := ⟨k1.toNat, by omega⟩
                          have HB13 := Lib.hid (HB12.out.trans (b1.mono HB12.out.size))
                          have m1 : 1 ≤ m := by omega
                          have m4 : m ≤ 4 := by omega
                          have c3 := Lib.hid (makeAll_c lt m w2 lt1 lt3 m4)
                          have hcase := Lib.hid (cnt_case lt1 lt3 m1 m4)
                          have hAs := (allTo_small lt3 m m4).1
                          obtain ⟨A, hA⟩ : ∃ A, A = allTo lt m := ⟨_, rfl⟩
                          rw [← hA] at c3 hcase hAs
                          clear c2 b1 HB12 k2 k3 hA
                          go_wp2_with fail
                          refine c3.out.mono ?_
                          rintro e w4 ⟨vA, rfl, oA, bA⟩
                          have HB14 := Lib.hid (HB13.out.trans (bA.mono HB13.out.size))
                          have RA := Lib.hid oA.rd
                          obtain ⟨ga, ca, hvA⟩ := rdS_shape RA.out
                          subst hvA
                          obtain ⟨NA, hNA⟩ : ∃ NA, NA = A.length := ⟨_, rfl⟩
                          have HNA := Lib.hid hNA
                          rw [← hNA] at hAs ⊢
                          have hst3 : Hid (0 = ((A.take 0).filter (cP m)).length) := by simp [Hid]
                          clear c3 oA bA HB13 hNA
                          go_wp2_with fail
                          go_loopw [23, 250] (fun y z wr => ∃ t c : Nat, z = .int .i64 (t : Int) ∧ t ≤ NA ∧ y = .int .i64 (c : Int) ∧ c ≤ t ∧ Hid (c = ((A.take t).filter (cP m)).length) ∧ Below w4.heap.size w4 wr) (fun _ z _ => NA - (intOf z).toNat)
                          case atStart => exact ⟨0, 0, rfl, by omega, rfl, by omega, hst3, Below.refl _ _⟩
                          case round =>
                            obtain ⟨t, c, rfl, ht, rfl, hct, hcn, hbr⟩ := hrel
                            by_cases htN : t < NA
                            · obtain ⟨x, hx⟩ : ∃ x, A[t]? = some x := ⟨_, List.getElem?_eq_getElem (by rw [← HNA.out]; exact htN)⟩
                              obtain ⟨g, rfl, hca, hcell⟩ := rdS_at (RA.out.below hbr) hx
                              have hc0 := hcell t x hx
                              have b2 : (t : Int) < (NA : Int) := by omega
                              by_cases hxm : x.size = m
                              · have hyz : ((x.size : Int) == (m : Int)) = true := beq_iff_eq.2 (by omega)
                                have hcall := Lib.hid (isLyndon_i x wr (by omega))
                                cases hly : lyW x
                                · have hnx : Hid (c = ((A.take (t + 1)).filter (cP m)).length) := by unfold Hid; rw [filt_no hx (by unfold cP; rw [hly, Bool.and_false])]; exact hcn.out
                                  rw [hly] at hcall
                                  have HXM := Lib.hid hxm
                                  clear hx hcell hxm hly
                                  go_wp2_with fail
                                  refine hcall.out.mono ?_
                                  rintro e w' ⟨rfl, hbc⟩
                                  have HBC := Lib.hid (hbr.trans (hbc.mono hbr.size))
                                  clear hbc hcall hc0
                                  go_wp2_with fail
                                  go_roundw
                                  case rel => exact ⟨t + 1, c, by go_num, by omega, rfl, by omega, hnx, HBC.out⟩
                                  case measure => simp [intOf] <;> omega
                                · have hnx : Hid (c + 1 = ((A.take (t + 1)).filter (cP m)).length) := by unfold Hid; rw [filt_yes hx (by unfold cP; rw [hly, hxm]; simp), ← hcn.out]
                                  rw [hly] at hcall
                                  have HXM := Lib.hid hxm
                                  clear hx hcell hxm hly
                                  go_wp2_with fail
                                  refine hcall.out.mono ?_
                                  rintro e w' ⟨rfl, hbc⟩
                                  have HBC := Lib.hid (hbr.trans (hbc.mono hbr.size))
                                  clear hbc hcall hc0
                                  go_wp2_with fail
                                  go_roundw
                                  case rel => exact ⟨t + 1, c + 1, by go_num, by omega, by go_num, by omega, hnx, HBC.out⟩
                                  case measure => simp [intOf] <;> omega
                              · have hyz : ((x.size : Int) == (m : Int)) = false := beq_eq_false_iff_ne.2 (by omega)
                                have hyn : decide (x.size = m) = false := decide_eq_false hxm
                                have hnx : Hid (c = ((A.take (t + 1)).filter (cP m)).length) := by unfold Hid; rw [filt_no hx (by unfold cP; rw [hyn]; rfl)]; exact hcn.out
                                clear hx hcell
                                go_wp2_with fail
                                go_roundw
                                case rel => exact ⟨t + 1, c, by go_num, by omega, rfl, by omega, hnx, hbr⟩
                                case measure => simp [intOf] <;> omega
                            · have hcf : Hid (clW (lt : Int) (m : Int) = (c : Int)) := by unfold Hid; rw [hcase.out, hcn.out, List.take_of_length_le (by rw [← HNA.out]; omega)]
                              have hcl := Lib.hid (countLyndon_i (lt : Int) (m : Int) wr)
                              rw [hcf.out] at hcl
                              have HBE := Lib.hid (HB14.out.trans (hbr.mono HB14.out.size))
                              have b2 : decide ((t : Int) < (NA : Int)) = false := decide_eq_false (by omega)
                              have d9 : ((c : Int) == (c : Int)) = true := by simp
                              clear hbr hcn hcase HB14 RA
                              go_wp2_with fail
                              refine hcl.out.mono ?_
                              rintro e w' ⟨rfl, hbc⟩
                              have HBC := Lib.hid (HBE.out.trans (hbc.mono HBE.out.size))
                              clear hbc hcl
                              go_wp2_with fail
                              go_ret
                              exact ⟨rfl, HBC.out⟩
end Go.Proofs.Ytlmciomoimfajaa
