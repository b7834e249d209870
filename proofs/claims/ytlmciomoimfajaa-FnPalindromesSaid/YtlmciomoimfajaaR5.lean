/- The walk of the law FnPalindromes: it returns true. Conditions: the code's bytes can be read; the library's variable MaxLen holds a number. -/
import Derived.Test.YtlmciomoimfajaaV8
import Derived.Test.YtlmciomoimfajaaL1
import Derived.Test.YtlmciomoimfajaaL6
import Derived.Test.YtlmciomoimfajaaB3
import Derived.Test.YtlmciomoimfajaaT4
import Derived.Test.YtlmciomoimfajaaR1
import Derived.Test.YtlmciomoimfajaaR4
import Derived.Deep.Cut
import Derived.Deep.CutRange
import Derived.Deep.RegionWith
namespace Go.Proofs.Ytlmciomoimfajaa
open Go.RowKit
set_option linter.unusedVariables false

theorem word_inf {s x : ByteArray} (hw : wordL s.data.toList = true) (h : x.data.toList <:+: s.data.toList) : wordL x.data.toList = true :=
  wordL_mk (fun c hc => wordL_all hw c (h.subset hc)) (Nat.le_trans h.length_le (wordL_len hw))
theorem size_inf {s x : ByteArray} (h : x.data.toList <:+: s.data.toList) : x.size ≤ s.size := by rw [size_len, size_len]; exact h.length_le

set_option maxRecDepth 100000 in
set_option maxHeartbeats 20000000 in
theorem lawPalindromes_w (a0 : Option Addr) (len0 cap0 : Nat) (z0 : List Int) (w : World) (w0 : IsRow .u8 w a0 len0 cap0 z0) {mx : Int} (hm : w.cell? ⟨0, 0, none⟩ = some (.int .i64 mx)) :
    Calls Try.prog 8 #[.slice a0 len0 cap0] w fun e w' => e = .returned (.bool true) ∧ Below w.heap.size w w' := by
  by_cases hbig : 1048576 < len0
  · have hd : decide ((1048576 : Int) < (len0 : Int)) = true := decide_eq_true (by omega)
    go_enter Try.func8, Try.ntmps8
    go_wp2
    go_ret
    exact ⟨rfl, Below.refl _ _⟩
  · have hd : decide ((1048576 : Int) < (len0 : Int)) = false := decide_eq_false (by omega)
    have hlen : len0 ≤ 1048576 := by omega
    have hmb := World.block_lt_of_cell? w _ hm
    have HM := Lib.hid (fun W (hb : Below w.heap.size w W) => show W.cell? ⟨0, 0, none⟩ = some (.int .i64 mx) by rw [hb.cell (p := ⟨0, 0, none⟩) hmb]; exact hm)
    have HR := Lib.hid (fun W (hb : Below w.heap.size w W) => w0.keep hb)
    have c1 := Lib.hid (makeWord_c a0 len0 cap0 z0 0 14 w w0 hlen (by omega) (by omega))
    clear hm w0 hbig hmb
    go_enter Try.func8, Try.ntmps8
    go_wp2_with fail
    refine c1.out.mono ?_
    rintro e w1 ⟨s, rfl, hs, hlet, hb1⟩
    have HB1 := Lib.hid hb1
    have HS := Lib.hid (letL_word hlet (by omega) (by rw [← size_len]; omega))
    have HSH := Lib.hid (short_of HS.out (by omega))
    have c2 := Lib.hid (palindromesIn_i s w1 (by omega))
    obtain ⟨L, hL⟩ : ∃ L, L = palW s := ⟨_, rfl⟩
    rw [← hL] at c2
    have HLe := Lib.hid hL
    clear c1 hlet hb1 hL
    go_wp2_with fail
    refine c2.out.mono ?_
    rintro e w2 ⟨vL, rfl, oL, bL⟩
    have HB2 := Lib.hid (HB1.out.trans (bL.mono HB1.out.size))
    have RL := Lib.hid oL.rd
    obtain ⟨gl, cl, hvL, _⟩ := rdS_shape RL.out
    subst hvL
    have c3 := Lib.hid (defectOf_i s w2 (by omega))
    obtain ⟨D, hD⟩ : ∃ D, D = defW s := ⟨_, rfl⟩
    have hDeq := defW_eq HSH.out
    have hLle := palW_le HSH.out
    rw [← hD] at hDeq c3
    rw [← HLe.out] at hDeq hLle
    obtain ⟨NL, hNL⟩ : ∃ NL, NL = L.length := ⟨_, rfl⟩
    have HNL := Lib.hid hNL
    have RL := Lib.hid (show RdS w2 (.slice gl NL cl) L by rw [hNL]; exact RL.out)
    rw [← hNL] at hDeq hLle ⊢
    have hD0 : 0 ≤ D := by omega
    have hD1 : D ≤ 15 := by omega
    have hD2 : (s.size : Int) + 1 - D = (NL : Int) := by omega
    have HDe := Lib.hid hD
    clear c2 oL bL HB1 hD hDeq hNL
    go_wp2_with fail
    refine c3.out.mono ?_
    rintro e w3 ⟨rfl, b3⟩
    have HB3 := Lib.hid (HB2.out.trans (b3.mono HB2.out.size))
    have RL3 := Lib.hid (RL.out.below b3)
    have c4 := Lib.hid (longestPal_i s w3 (by omega))
    clear c3 b3 HB2 RL
    go_wp2_with fail
    refine c4.out.mono ?_
    rintro e w4 ⟨a, m, rfl, hlp, b4⟩
    have hlp2 : ∃ i n : Nat, a = (i : Int) ∧ m = (n : Int) ∧ LpP s.data.toList i n := by
      rcases hlp with ⟨h, _⟩ | ⟨_, i, k, h1, h2, h3⟩
      · rw [HS.out] at h; cases h
      · exact ⟨i, k, h1, h2, h3⟩
    obtain ⟨i, n, rfl, rfl, hLp⟩ := hlp2
    obtain ⟨hin, hpal, hmax⟩ := lp_facts HSH.out hLp
    rw [← HLe.out] at hmax
    have HMAX := Lib.hid hmax
    have HB4 := Lib.hid (HB3.out.trans (b4.mono HB3.out.size))
    have RL4 := Lib.hid (RL3.out.below b4)
    have HPAL := Lib.hid hpal
    clear c4 hlp hLp b4 HB3 RL3 hmax hpal
    go_upto_region 7 with fail
    go_cut [94] from 33 to 94 (fun s94 wx => s94 = .bool false ∧ Below w4.heap.size w4 wx)
    case first =>
      have hri := Lib.hid (rising_c (.slice gl NL cl) L w4 RL4.out (by rw [← HNL.out]; omega) (by rw [HLe.out]; exact palW_asc s))
      have hinn := Lib.hid (fun d => in_c (.slice gl NL cl) L ⟨#[]⟩ (w4.drewN d) RL4.out (by rw [← HNL.out]; omega) (by rw [HLe.out]; exact palW_empty HSH.out))
      have hrich := Lib.hid (fun W => isRich_i s W (by omega))
      rw [← HDe.out] at hrich
      have hxz : (s.extract i (i + n)).size = n := by rw [ext_size s i (i + n) hin (by omega)]; omega
      have hip := Lib.hid (fun W => isPalindrome_i (s.extract i (i + n)) W (by omega))
      have hxw : wordL (s.extract i (i + n)).data.toList = true := word_inf HS.out (inf_ext.2 ⟨i, by omega, by rw [hxz]⟩)
      rw [show isPalW (s.extract i (i + n)) = true by unfold isPalW; rw [hxw, HPAL.out]; rfl] at hip
      have hfl := Lib.hid (fun W => flip_c s W (by omega))
      have hdf := Lib.hid (fun W => defectOf_i (rev s) W (by rw [rev_size]; omega))
      rw [defW_rev HSH.out, ← HDe.out] at hdf
      have q1 : decide (D < 0) = false := decide_eq_false (by omega)
      have q2 : ((NL : Int) != (NL : Int)) = false := by simp
      have q3 : (D != D) = false := by simp
      have q4 : (i : Int) + (n : Int) ≤ (s.size : Int) := by omega
      have q5 : (i : Int) ≤ (i : Int) + (n : Int) := by omega
      have q6 : ((i : Int) + (n : Int)).toNat = i + n := by omega
      have q7 : 0 ≤ (i : Int) + (n : Int) := by omega
      have q8 : decide ((s.size : Int) < (i : Int) + (n : Int)) = false := decide_eq_false (by omega)
      clear hxw
      cases q9 : (D == 0) <;> rw [q9] at hrich
      all_goals
        go_wp2_with fail
        refine hri.out.mono ?_
        rintro e w5 ⟨rfl, d5, rfl⟩
        go_wp2_with fail
        refine (hinn.out _).mono ?_
        rintro e w' ⟨rfl, rfl⟩
        go_wp2_with fail
        refine (hrich.out _).mono ?_
        rintro e w6 ⟨rfl, b6⟩
        have K6 := Lib.hid ((below_drewN (Below.refl w4.heap.size w4) d5).trans b6)
        clear b6
        go_wp2_with fail
        refine (hip.out _).mono ?_
        rintro e w7 ⟨rfl, b7⟩
        have K7 := Lib.hid (K6.out.trans (b7.mono K6.out.size))
        clear b7
        go_wp2_with fail
        refine (hfl.out _).mono ?_
        rintro e w8 ⟨rfl, b8⟩
        have K8 := Lib.hid (K7.out.trans (b8.mono K7.out.size))
        clear b8
        go_wp2_with fail
        refine (hdf.out _).mono ?_
        rintro e w9 ⟨rfl, b9⟩
        have K9 := Lib.hid (K8.out.trans (b9.mono K8.out.size))
        clear b9
        go_wp2_with fail
        go_meet
        case rel => exact ⟨rfl, K9.out⟩
    case rest =>
      obtain ⟨rfl, hbc⟩ := hcut
      have HB5 := Lib.hid (HB4.out.trans (hbc.mono HB4.out.size))
      have RL5 := Lib.hid (RL4.out.below hbc)
      clear hbc HB4 RL4
      go_wp2_with fail
      go_loopw [97] (fun z wr => ∃ k : Nat, z = .int .i64 (k : Int) ∧ k ≤ NL ∧ Below wc.heap.size wc wr) (fun z _ => NL - (intOf z).toNat)
      case atStart => exact ⟨0, rfl, by omega, Below.refl _ _⟩
      case round =>
        obtain ⟨k, rfl, hk, hbr⟩ := hrel
        by_cases hlk : k < NL
        · obtain ⟨x, hx⟩ : ∃ x, L[k]? = some x := ⟨_, List.getElem?_eq_getElem (by rw [← HNL.out]; exact hlk)⟩
          obtain ⟨g, hg, hca, hcell⟩ := rdS_cell (show RdS wr (.slice gl L.length cl) L by rw [← HNL.out]; exact RL5.out.below hbr) hx
          subst hg
          have cx := hcell k x hx
          rw [← HNL.out] at hca
          have hxm := List.mem_of_getElem? hx
          have hxn := HMAX.out x hxm
          rw [HLe.out] at hxm
          obtain ⟨hxp, hxi⟩ := (palW_mem HSH.out).1 hxm
          have hrv := pal_rev hxp
          have hxw := word_inf HS.out hxi
          have hxz := size_inf hxi
          have b1 : (k : Int) < (NL : Int) := by omega
          have hfl := Lib.hid (flip_c x wr (by omega))
          rw [hrv] at hfl
          have hif := Lib.hid (fun W (hW : Below w.heap.size w W) => isFactor_i s x mx W (HM.out W hW) HS.out hxw)
          rw [contains_inf hxi] at hif
          have d1 : (x.toList != x.toList) = false := by simp
          have d2 : decide ((n : Int) < (x.size : Int)) = false := decide_eq_false (by omega)
          clear hcell hx hxm hxp hxi hrv hxw
          go_wp2_with fail
          refine hfl.out.mono ?_
          rintro e w6 ⟨rfl, b6⟩
          have K6 := Lib.hid (hbr.trans (b6.mono hbr.size))
          clear b6
          go_wp2_with fail
          refine (hif.out _ (HB5.out.trans (K6.out.mono HB5.out.size))).mono ?_
          rintro e w' ⟨rfl, rfl⟩
          go_wp2_with fail
          go_roundw
          case rel => exact ⟨k + 1, by go_num, by omega, K6.out⟩
          case measure => simp [intOf] <;> omega
        · have b1 : decide ((k : Int) < (NL : Int)) = false := decide_eq_false (by omega)
          have HB6 := Lib.hid (HB5.out.trans (hbr.mono HB5.out.size))
          have hcl := Lib.hid (closeWord_i s wr (by omega))
          have hcn := Lib.hid (fun k a b => @close_not s k a b)
          have hcp := Lib.hid (close_pre s)
          obtain ⟨hcw, hcz, hcz1, hcz2⟩ := close_word HS.out hs
          rw [show cwS s = closeS s by unfold cwS; rw [HS.out, hcw]; rfl] at hcl
          have hci := close_isPal s
          have hcs := close_same s
          obtain ⟨c, hc⟩ : ∃ c, c = closeS s := ⟨_, rfl⟩
          rw [← hc] at hcl hcn hcp hcw hcz hcz1 hcz2 hci hcs
          clear hc hbr HB5 RL5 HMAX
          go_wp2_with fail
          refine hcl.out.mono ?_
          rintro e w6 ⟨rfl, b6⟩
          have HB7 := Lib.hid (HB6.out.trans (b6.mono HB6.out.size))
          have hp1 := Lib.hid (fun W => isPalindrome_i c W (by omega))
          rw [show isPalW c = true by unfold isPalW; rw [hcw, hci]; rfl] at hp1
          have hp2 := Lib.hid (fun W => isPalindrome_i s W (by omega))
          rw [show isPalW s = (c.toList == s.toList) by unfold isPalW; rw [HS.out, hcs]; rfl] at hp2
          have hst := Lib.hid (fun W => starts_c c s W (by omega) hcp.out)
          have d3 : decide (2 * (s.size : Int) < (c.size : Int)) = false := decide_eq_false (by omega)
          clear b6 HB6 hcl hcw hci hcs
          go_upto_region 16 with fail
          go_cut [144] from 121 to 144 (fun s144 wx => s144 = .bool false ∧ Below w.heap.size w wx)
          case first =>
            cases d4 : (c.toList == s.toList) <;> rw [d4] at hp2
            all_goals
              go_wp2_with fail
              refine (hp1.out _).mono ?_
              rintro e w7 ⟨rfl, b7⟩
              have K7 := Lib.hid (HB7.out.trans (b7.mono HB7.out.size))
              clear b7
              go_wp2_with fail
              refine (hst.out _).mono ?_
              rintro e w' ⟨rfl, rfl⟩
              go_wp2_with fail
              refine (hp2.out _).mono ?_
              rintro e w8 ⟨rfl, b8⟩
              have K8 := Lib.hid (K7.out.trans (b8.mono K7.out.size))
              clear b8
              go_wp2_with fail
              go_meet
              case rel => exact ⟨rfl, K8.out⟩
          case rest =>
            obtain ⟨rfl, hbc⟩ := hcut
            have HB8 := Lib.hid hbc
            clear hbc HB7 hp1 hp2 hst d3 hcp
            go_wp2_with fail
            go_loopw [11] (fun z wr => ∃ k : Nat, z = .int .i64 (k : Int) ∧ s.size ≤ k ∧ k ≤ c.size ∧ Below w.heap.size w wr) (fun z _ => c.size - (intOf z).toNat)
            case atStart => exact ⟨s.size, rfl, by omega, by omega, HB8.out⟩
            case round =>
              obtain ⟨k, rfl, hk0, hk, hbr⟩ := hrel
              by_cases hlk : k < c.size
              · have b1 : (k : Int) < (c.size : Int) := by omega
                have b2 : (k : Int) ≤ (c.size : Int) := by omega
                have hno := hcn.out k hk0 hlk
                have hez : (c.extract 0 k).size ≤ 28 := by rw [ext_size c 0 k (by omega) (by omega)]; omega
                have hfl := Lib.hid (fun W => flip_c (c.extract 0 k) W (by omega))
                have HBr := Lib.hid hbr
                have HEZ := Lib.hid hez
                clear hez
                go_upto_region 21 with fail
                go_cut [160] from 147 to 160 (fun s160 wx => s160 = .bool false ∧ Below w.heap.size w wx)
                case first =>
                  go_region_with (go_at_call 15; refine (hfl.out _).mono ?_; rintro e wy ⟨rfl, by1⟩)
                  go_wp2_with fail
                  go_meet
                  case rel => exact ⟨rfl, (show Below w.heap.size w wr.drew from below_drewN HBr.out 1).trans (by1.mono HBr.out.size)⟩
                case rest =>
                  obtain ⟨rfl, hbc⟩ := hcut
                  go_wp2_with fail
                  go_roundw
                  case rel => exact ⟨k + 1, by go_num, by omega, by omega, hbc⟩
                  case measure => simp [intOf] <;> omega
              · have b1 : decide ((k : Int) < (c.size : Int)) = false := decide_eq_false (by omega)
                have HB9 := Lib.hid hbr
                have c1 := Lib.hid (makeWord_c a0 len0 cap0 z0 30 6 wr (HR.out wr hbr) hlen (by omega) (by omega))
                clear hbr HB8 hcn
                go_wp2_with fail
                refine c1.out.mono ?_
                rintro e w1 ⟨v, rfl, hv, hvl, b1⟩
                have HB10 := Lib.hid (HB9.out.trans (b1.mono HB9.out.size))
                have hvw := letL_word hvl (by omega) (by rw [← size_len]; omega)
                have hvabc := Lib.hid (wordL_all hvw)
                have HVL := Lib.hid hvl
                have hd1 := Lib.hid (directedWord_i v w1 (by omega))
                rw [dwW_dir hvw hv] at hd1
                have hvl6 : v.data.toList.length ≤ 6 := by rw [← size_len]; exact hv
                have hxw := dirF_word hvabc.out hvl6
                obtain ⟨x, hx⟩ : ∃ x, x = St (dirF v.data.toList) := ⟨_, rfl⟩
                have hxd : x.data.toList = dirF v.data.toList := by rw [hx]; rfl
                have hxz : x.size = (dirF v.data.toList).length := by rw [size_len, hxd]
                rw [← hx] at hd1
                have HX := Lib.hid hx
                have HXD := Lib.hid hxd
                have HXZ := Lib.hid hxz
                have hx63 : x.size ≤ 63 := by omega
                have HV6 := Lib.hid hvl6
                clear b1 c1 HB9 hx hxd hxz hvl hvl6
                go_wp2_with fail
                refine hd1.out.mono ?_
                rintro e w2 ⟨rfl, b2⟩
                have HB11 := Lib.hid (HB10.out.trans (b2.mono HB10.out.size))
                have hd2 := Lib.hid (directionOf_i x w2 (by omega))
                rw [HX.out, dofW_dir hvabc.out HV6.out, St_of, ← HX.out] at hd2
                clear b2 HB10 hd1
                go_wp2_with fail
                refine hd2.out.mono ?_
                rintro e w3 ⟨rfl, b3⟩
                have HB12 := Lib.hid (HB11.out.trans (b3.mono HB11.out.size))
                have hp3 := Lib.hid (fun W => isPalindrome_i x W (by omega))
                rw [show isPalW x = true by unfold isPalW; rw [HXD.out, hxw.1, isPal_iff.2 (by rw [HXD.out]; exact dirF_pal _)]; rfl] at hp3
                have hri := Lib.hid (fun W => isRich_i x W (by omega))
                have hdr : Hid (x.size ≤ 60 → (defW x == 0) = true) := fun h => by rw [HX.out, dir_rich HVL.out HV6.out (by rw [← HXZ.out]; exact h)]; rfl
                have d1 : (v.toList != v.toList) = false := by simp
                clear b3 HB11 hd2
                go_upto_region 28 with fail
                go_cut [196] from 176 to 196 (fun s196 wx => s196 = .bool false ∧ Below w.heap.size w wx)
                case first =>
                  by_cases hle : x.size ≤ 60
                  · have d2 : decide ((x.size : Int) ≤ 60) = true := decide_eq_true (by omega)
                    rw [hdr.out hle] at hri
                    go_wp2_with fail
                    refine (hp3.out _).mono ?_
                    rintro e w4 ⟨rfl, b4⟩
                    have K4 := Lib.hid (HB12.out.trans (b4.mono HB12.out.size))
                    clear b4
                    go_wp2_with fail
                    refine (hri.out _).mono ?_
                    rintro e w5 ⟨rfl, b5⟩
                    have K5 := Lib.hid (K4.out.trans (b5.mono K4.out.size))
                    clear b5
                    go_wp2_with fail
                    go_meet
                    case rel => exact ⟨rfl, K5.out⟩
                  · have d2 : decide ((x.size : Int) ≤ 60) = false := decide_eq_false (by omega)
                    go_wp2_with fail
                    refine (hp3.out _).mono ?_
                    rintro e w4 ⟨rfl, b4⟩
                    have K4 := Lib.hid (HB12.out.trans (b4.mono HB12.out.size))
                    clear b4
                    go_wp2_with fail
                    go_meet
                    case rel => exact ⟨rfl, K4.out⟩
                case rest =>
                  obtain ⟨rfl, hbc⟩ := hcut
                  have HB13 := Lib.hid hbc
                  clear hbc HB12 hp3 hri hdr
                  go_upto_if 199 with fail
                  go_cut [] from 199 to 232 (fun wx => Below w.heap.size w wx)
                  case first =>
                    rcases Nat.eq_zero_or_pos v.size with h0 | h1
                    · have e1 : ¬ 0 < v.size := by omega
                      have e2 : decide (0 < v.size) = false := decide_eq_false e1
                      have e3 : decide ((0 : Int) < (v.size : Int)) = false := decide_eq_false (by omega)
                      have H0 := Lib.hid h0
                      clear h0
                      go_wp2_with fail
                      go_meet
                      case rel => exact HB13.out
                    · obtain ⟨d, cc, hd, hde, hdp, hdl⟩ := dir_init h1
                      have e2 : 0 < v.size := h1
                      have e3 : decide ((0 : Int) < (v.size : Int)) = true := decide_eq_true (by omega)
                      obtain ⟨q, hq⟩ : ∃ q, v.size = q + 1 := ⟨v.size - 1, by omega⟩
                      have e4 : (v.size : Int) - 1 = (q : Int) := by omega
                      have e5 : (q : Int) ≤ (v.size : Int) := by omega
                      have e6 : IntKind.i64.wrap (q : Int) = (q : Int) := IntWalk.i64_in _ (by omega)
                      have hq1 : v.size - 1 = q := by omega
                      rw [hq1] at hde
                      obtain ⟨u, hu⟩ : ∃ u, u = v.extract 0 q := ⟨_, rfl⟩
                      have huz : u.size ≤ 6 := by rw [hu, ext_size v 0 q (by omega) (by omega)]; omega
                      rw [← hu] at hde
                      have huw : wordL u.data.toList = true := wordL_mk (fun c hc => hvabc.out c (by rw [hd]; rw [hde] at hc; exact List.mem_append_left _ hc)) (by rw [← size_len]; omega)
                      have hd3 := Lib.hid (fun W => directedWord_i u W (by omega))
                      rw [dwW_dir huw huz, hde, hu] at hd3
                      obtain ⟨y, hy⟩ : ∃ y, y = St (dirF d) := ⟨_, rfl⟩
                      have hyd : y.data.toList = dirF d := by rw [hy]; rfl
                      have hst := Lib.hid (fun W => starts_c x y W (by omega) (by rw [HXD.out, hyd]; exact hdp))
                      have hyz : y.size < x.size := by rw [size_len, hyd, HXZ.out]; exact hdl
                      rw [← hy] at hd3
                      have e7 : decide ((x.size : Int) ≤ (y.size : Int)) = false := decide_eq_false (by omega)
                      obtain ⟨r3, hr3⟩ : ∃ r3 : Nat, r3 = v.size % 3 := ⟨_, rfl⟩
                      obtain ⟨m, hm⟩ : ∃ m : Nat, m = 1 + r3 := ⟨_, rfl⟩
                      have hm1 : (v.size : Int) % 3 = (r3 : Int) := by rw [hr3]; exact (Int.natCast_emod _ _).symm
                      have hm2 : (v.size : Int).tmod 3 = (r3 : Int) := by rw [Int.tmod_eq_emod_of_nonneg (by omega)]; exact hm1
                      have hr4 : r3 ≤ 2 := by omega
                      have e8 : IntKind.i64.wrap (r3 : Int) = (r3 : Int) := IntWalk.i64_in _ (by omega)
                      have e9 : (1 : Int) + (r3 : Int) = (m : Int) := by omega
                      have e10 : IntKind.i64.wrap (m : Int) = (m : Int) := IntWalk.i64_in _ (by omega)
                      have hcw := Lib.hid (fun W => isClosed_i x (m : Int) W (by omega))
                      rw [HX.out, dir_closed hvabc.out HV6.out (by omega) (by omega), ← HX.out] at hcw
                      have HQ := Lib.hid hq
                      clear hq hq1 hd hde hdp hdl hu huz huw hy hyd hm hr3 h1
                      go_wp2_with fail
                      refine (hd3.out _).mono ?_
                      rintro e w4 ⟨rfl, b4⟩
                      have K4 := Lib.hid (HB13.out.trans (b4.mono HB13.out.size))
                      clear b4
                      go_wp2_with fail
                      refine (hst.out _).mono ?_
                      rintro e w' ⟨rfl, rfl⟩
                      go_wp2_with fail
                      refine (hcw.out _).mono ?_
                      rintro e w5 ⟨rfl, b5⟩
                      have K5 := Lib.hid (K4.out.trans (b5.mono K4.out.size))
                      clear b5
                      go_wp2_with fail
                      go_meet
                      case rel => exact K5.out
                  case rest =>
                    have HB14 := Lib.hid hcut
                    have hp4 := Lib.hid (fun W => isPalindrome_i s W (by omega))
                    have hsp : isPalW s = (s.toList == (rev s).toList) := by
                      unfold isPalW; rw [HS.out, Bool.true_and, Bool.eq_iff_iff, isPal_iff, beq_iff_eq, Lib.toList_data, Lib.toList_data, rev_data]; exact Iff.rfl
                    rw [hsp] at hp4
                    have hfl := Lib.hid (fun W => flip_c s W (by omega))
                    clear hcut HB13 hsp
                    cases d5 : (s.toList == (rev s).toList) <;> rw [d5] at hp4
                    all_goals
                      go_wp2_with fail
                      refine (hp4.out _).mono ?_
                      rintro e w4 ⟨rfl, b4⟩
                      have K4 := Lib.hid (HB14.out.trans (b4.mono HB14.out.size))
                      clear b4
                      go_wp2_with fail
                      refine (hfl.out _).mono ?_
                      rintro e w5 ⟨rfl, b5⟩
                      have K5 := Lib.hid (K4.out.trans (b5.mono K4.out.size))
                      clear b5
                      go_wp2_with fail
                      go_ret
                      exact ⟨rfl, K5.out⟩
end Go.Proofs.Ytlmciomoimfajaa
