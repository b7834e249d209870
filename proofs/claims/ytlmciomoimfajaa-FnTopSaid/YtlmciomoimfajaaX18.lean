/- The walk of the law FnTop: it returns true. Conditions: the code's bytes can be read; the library's variable MaxLen holds a number (not used). -/
import Derived.Test.YtlmciomoimfajaaX17
import Derived.Test.YtlmciomoimfajaaX19
namespace Go.Proofs.Ytlmciomoimfajaa
open Go.RowKit
set_option linter.unusedVariables false

theorem rdI_cellX {w : World} {g n c : Nat} {L : List Int} (h : RdI w (.slice (some ⟨g, 0, none⟩) n c) L) {j : Nat} {x : Int} (hx : L[j]? = some x) : w.cell? ⟨g, j, none⟩ = some (.int .i64 x) := by
  rcases h with ⟨h0, _⟩ | ⟨g', c', hv, _, h⟩
  · cases h0
  · cases hv; exact h j x hx
set_option maxRecDepth 100000 in
set_option maxHeartbeats 20000000 in
theorem lawTop_w (a0 : Option Addr) (len0 cap0 : Nat) (z0 : List Int) (w : World) (w0 : IsRow .u8 w a0 len0 cap0 z0) {mx : Int} (hm : w.cell? ⟨0, 0, none⟩ = some (.int .i64 mx)) :
    Calls Try.prog 9 #[.slice a0 len0 cap0] w fun e w' => e = .returned (.bool true) ∧ Below w.heap.size w w' := by
  by_cases hbig : 1048576 < len0
  · have hd : decide ((1048576 : Int) < (len0 : Int)) = true := decide_eq_true (by omega)
    go_enter Try.func9, Try.ntmps9
    go_wp2
    go_ret
    exact ⟨rfl, Below.refl _ _⟩
  · have hd : decide ((1048576 : Int) < (len0 : Int)) = false := decide_eq_false (by omega)
    have hlen : len0 ≤ 1048576 := by omega
    have HR := Lib.hid (fun W (hb : Below w.heap.size w W) => w0.keep hb)
    have c1 := Lib.hid (makeGrowing_c a0 len0 cap0 z0 w w0 hlen)
    clear hm w0 hbig
    go_enter Try.func9, Try.ntmps9
    go_wp2_with fail
    refine c1.out.mono ?_
    rintro e w1 ⟨ga, c, L, rfl, hrd, hg, hb1⟩
    have hok := hg.toOkL
    obtain ⟨n, hn⟩ : ∃ n, n = L.length := ⟨_, rfl⟩
    have h4 := hok.four
    have h1 := hok.one
    rw [← hn] at hrd h4 h1 ⊢
    have hba : Below w1.heap.size w1 (w1.alloc (.cells #[.slice ga n c] 67)) := (Below.refl _ _).alloc (Nat.le_refl _) _
    have cw := box_cell w1 (.slice ga n c) 67
    obtain ⟨wa, hwa⟩ : ∃ wa, wa = w1.alloc (.cells #[.slice ga n c] 67) := ⟨_, rfl⟩
    have hszw : w1.heap.size < wa.heap.size := by rw [hwa]; simp
    rw [← hwa] at cw hba
    have CW := Lib.hid (fun W (hW : Below wa.heap.size wa W) => show W.cell? ⟨w1.heap.size, 0, none⟩ = some (.slice ga n c) by rw [hW.cell (p := ⟨w1.heap.size, 0, none⟩) hszw]; exact cw)
    have RD := Lib.hid (fun W (hW : Below wa.heap.size wa W) => show RdSub W ga n c L from hrd.below (hba.trans (hW.mono (by omega))))
    have HBW := Lib.hid (fun W (hW : Below wa.heap.size wa W) => show Below w.heap.size w W from hb1.trans ((hba.trans (hW.mono (by omega))).mono hb1.size))
    have c2 := Lib.hid (makeSize_c a0 len0 cap0 z0 20 0 40 wa (HR.out wa (HBW.out wa (Below.refl _ _))) hlen (by omega) (by omega) (by omega) (by omega))
    have k1 := Lib.hid (fun m W (hm : m ≤ 400) (hW : Below wa.heap.size wa W) => fixedPoint_i ga n c L m W (RD.out W hW) hg hm)
    have k2 := Lib.hid (fun s m W (hm : m ≤ 400) (hs : s = St (fxL L m)) (hW : Below wa.heap.size wa W) => isFixedStart_i ga n c L s m W (RD.out W hW) hg hm hs)
    have k3 := Lib.hid (fun W (hW : Below wa.heap.size wa W) => substOk_i ga n c L W (RD.out W hW) hok)
    have k4 := Lib.hid (fun m W (hm : m ≤ 10000) (hW : Below wa.heap.size wa W) => letterAt_i ga n c L m W (RD.out W hW) hg hm)
    have k5 := Lib.hid (fun (s : ByteArray) W (hs : ∀ x ∈ s.data.toList, inL L x) (hz : s.size ≤ 400) (hW : Below wa.heap.size wa W) => applySubst_i ga n c L s W (RD.out W hW) hok hs hz)
    have k6 := Lib.hid (fun m W (hm : m ≤ 20) (hW : Below wa.heap.size wa W) => iterateSubst_i ga n c L (St [letU 0]) m W (RD.out W hW) hok (in_one hok) (by decide) hm)
    have k7 := Lib.hid (fun gc cc m W (hcc : n ≤ cc) (hW : Below wa.heap.size wa W) (hr : ∀ a, a < n → W.cell? ⟨gc, a, none⟩ = some (.int .i64 ((ctL [97] a : Nat) : Int))) (hm : m ≤ 5) => countAfter_i ga n c L gc cc [97] m W (RD.out W hW) hok (in_one hok) (by decide) hcc hr (by omega) (Nat.le_trans (it5 hg hm) (by omega)))
    have k8 := Lib.hid (fun m W (hm : m ≤ 5) (hW : Below wa.heap.size wa W) => lengthAfter_i ga n c L m W (RD.out W hW) hg (by omega) (Nat.le_trans (it5 hg hm) (by omega)))
    have k9 := Lib.hid (fun W (hW : Below wa.heap.size wa W) => growingLetters_i ga n c L W (RD.out W hW) hg)
    have k10 := Lib.hid (fun W (hW : Below wa.heap.size wa W) => powerNeeded_i ga n c L W (RD.out W hW) hg)
    have k11 := Lib.hid (fun W (hW : Below wa.heap.size wa W) => orbitOfFirst_i ga n c L W (RD.out W hW) hg)
    have k12 := Lib.hid (fun m W (hm1 : 1 ≤ m) (hm : m ≤ 8) (hW : Below wa.heap.size wa W) => fixedFactors_i ga n c L m W (RD.out W hW) hg hm1 hm)
    have k13 := Lib.hid (fun m W (hm : m ≤ 20000) (hW : Below wa.heap.size wa W) => makeLong_c ga n c L m W (RD.out W hW) hg hm)
    have HG := Lib.hid hg
    have HOK := Lib.hid hok
    have HN := Lib.hid hn
    have HWA := Lib.hid hwa
    unfold sbV at k1 k2 k3 k4 k5 k6 k7 k8 k9 k10 k11 k12 k13 ⊢
    rw [stA] at k1 k4 k6 k8 k11 k12
    have hL97 : (⟨#[97]⟩ : ByteArray).data.toList = [97] := rfl
    rw [hL97] at k6
    obtain ⟨i0, hi0, hz, hi1, hi2⟩ := info_parts info_int
    have INFO := Lib.hid hi0
    have HZ := Lib.hid hz
    have HI1 := Lib.hid hi1
    have HI2 := Lib.hid hi2
    clear c1 hrd hg hb1 hok hn hba cw hwa hL97 hi0 hz hi1 hi2
    go_wp2_with fail
    rw [← HWA.out]
    have cb0 := CW.out wa (Below.refl _ _)
    refine c2.out.mono ?_
    rintro e w2 ⟨x, rfl, hx0, hx1, b2⟩
    obtain ⟨m, rfl⟩ : ∃ m : Nat, x = (m : Int) := ⟨x.toNat, by omega⟩
    have K2 := Lib.hid b2
    have cb2 := CW.out w2 K2.out
    have q1 := Lib.hid (k1.out m w2 (by omega) K2.out)
    obtain ⟨s, hs⟩ : ∃ s, s = St (fxL L m) := ⟨_, rfl⟩
    have hsz : s.size = m := by rw [hs, St_size]; exact (fxL_fix HG.out m).2
    rw [← hs] at q1
    subst hsz
    have HS := Lib.hid hs
    have hs40 : s.size ≤ 40 := by omega
    clear b2 cb0 hs hx0 hx1
    go_wp2_with fail
    refine q1.out.mono ?_
    rintro e w3 ⟨rfl, b3⟩
    have K3 := Lib.hid (K2.out.trans (b3.mono K2.out.size))
    have cb3 := CW.out w3 K3.out
    have q2 := Lib.hid (k2.out s s.size w3 (by omega) HS.out K3.out)
    clear b3 cb2 q1
    go_wp2_with fail
    refine q2.out.mono ?_
    rintro e w4 ⟨rfl, b4⟩
    have K4 := Lib.hid (K3.out.trans (b4.mono K3.out.size))
    have cb4 := CW.out w4 K4.out
    clear b4 cb3 q2
    have q3 := Lib.hid (k3.out w4 K4.out)
    go_wp2_with fail
    refine q3.out.mono ?_
    rintro e w5 ⟨rfl, b5⟩
    have K5 := Lib.hid (K4.out.trans (b5.mono K4.out.size))
    have cb5 := CW.out w5 K5.out
    have q4 := Lib.hid (wordOk_i s w5 (by omega))
    rw [show wordL s.data.toList = true by rw [HS.out]; exact fix_word HG.out _ (by omega)] at q4
    clear b5 cb4 q3
    go_wp2_with fail
    refine q4.out.mono ?_
    rintro e w6 ⟨rfl, rfl⟩
    obtain ⟨lg, hlg⟩ : ∃ lg, lg = St (fxL L 200) := ⟨_, rfl⟩
    have hlz : lg.size = 200 := by rw [hlg, St_size]; exact (fxL_fix HG.out 200).2
    have q5 := Lib.hid (k1.out 200 w5 (by omega) K5.out)
    rw [← hlg] at q5
    have HLG := Lib.hid hlg
    clear q4 hlg
    go_wp2_with fail
    refine q5.out.mono ?_
    rintro e w7 ⟨rfl, b7⟩
    have K7 := Lib.hid (K5.out.trans (b7.mono K5.out.size))
    have cb7 := CW.out w7 K7.out
    have hfs : FixP L s.data.toList := by rw [HS.out]; exact (fxL_fix HG.out _).1
    have hap := apL_len HOK.out hfs.let_
    have hsl : s.data.toList.length = s.size := (size_len s).symm
    have hib : itB L s.data.toList 1 = true := decide_eq_true (by show (apL L s.data.toList).length ≤ 400; omega)
    have q6 := Lib.hid (k5.out s w7 hfs.let_ (by omega) K7.out)
    rw [hib] at q6
    obtain ⟨v, hv⟩ : ∃ v, v = itS L s.data.toList 1 := ⟨_, rfl⟩
    have hvd : v.data.toList = apL L s.data.toList := by rw [hv]; unfold itS; rw [if_pos hib]; rfl
    rw [← hv] at q6
    have hvz : v.size ≤ 320 := by rw [size_len, hvd]; omega
    have p1 := Lib.hid (fun W => starts_c lg s W (by omega) (by rw [HLG.out, St_data]; exact fx_pre HG.out hfs (by omega)))
    have p2 := Lib.hid (fun W => starts_c v s W (by omega) (by rw [hvd]; exact hfs.pre))
    have p3 := Lib.hid (fun W (hv2 : v.size ≤ 200) => starts_c lg v W (by omega) (by rw [HLG.out, St_data, hvd]; exact fx_pre HG.out (fix_ap HG.out hfs) (by rw [← hvd, ← size_len]; exact hv2)))
    have hlet : Hid (∀ i, i < 200 → St ((fxL L (i + 1)).drop i) = lg.extract i (i + 1)) := fun i hi => by rw [HLG.out]; exact fx_letter HG.out hi
    clear b7 cb5 q5 hfs hap hsl hib hv hvd
    go_wp2_with fail
    refine q6.out.mono ?_
    rintro e w8 ⟨rfl, b8⟩
    have K8 := Lib.hid (K7.out.trans (b8.mono K7.out.size))
    have cb8 := CW.out w8 K8.out
    clear b8 cb7 q6
    go_upto_region 10 with fail
    go_cut [107] from 72 to 107 (fun z wx => z = .bool false ∧ wx = w8)
    case first =>
      have e1 : ((lg.size : Int) != 200) = false := by rw [hlz]; rfl
      by_cases hv2 : v.size ≤ 200
      · have e2 : decide ((v.size : Int) ≤ 200) = true := decide_eq_true (by omega)
        have p4 := Lib.hid (fun W => p3.out W hv2)
        clear p3
        go_wp2_with fail
        refine (p1.out w8).mono ?_
        rintro e w' ⟨rfl, rfl⟩
        go_wp2_with fail
        refine (p2.out w8).mono ?_
        rintro e w' ⟨rfl, rfl⟩
        go_wp2_with fail
        refine (p4.out w8).mono ?_
        rintro e w' ⟨rfl, rfl⟩
        go_wp2_with fail
        go_meet
        case rel => exact ⟨rfl, rfl⟩
      · have e2 : decide ((v.size : Int) ≤ 200) = false := decide_eq_false (by omega)
        go_wp2_with fail
        refine (p1.out w8).mono ?_
        rintro e w' ⟨rfl, rfl⟩
        go_wp2_with fail
        refine (p2.out w8).mono ?_
        rintro e w' ⟨rfl, rfl⟩
        go_wp2_with fail
        go_meet
        case rel => exact ⟨rfl, rfl⟩
    case rest =>
      obtain ⟨rfl, hwc⟩ := hcut
      obtain rfl : w8 = wc := hwc.symm
      go_wp2_with fail
      go_loopw [11] (fun z wr => ∃ i : Nat, z = .int .i64 (i : Int) ∧ i ≤ 206 ∧ Below wa.heap.size wa wr) (fun z _ => 207 - (intOf z).toNat)
      case atStart => exact ⟨0, rfl, by omega, K8.out⟩
      case round =>
        obtain ⟨i, rfl, hi, hbr⟩ := hrel
        by_cases hlt : i < 200
        · have b1 : (i : Int) < 200 := by omega
          have cbr := CW.out wr hbr
          have q := Lib.hid (k4.out i wr (by omega) hbr)
          rw [hlet.out i hlt] at q
          have KR := Lib.hid hbr
          go_wp2_with fail
          refine q.out.mono ?_
          rintro e w9 ⟨rfl, b9⟩
          have K9 := Lib.hid (KR.out.trans (b9.mono KR.out.size))
          have e1 : ((lg.extract i (i + 1)).toList != (lg.extract i (i + 1)).toList) = false := by simp
          have e2 : i + 1 ≤ lg.size := by omega
          have e3 : i ≤ lg.size := by omega
          clear b9 q
          go_wp2_with fail
          go_roundw
          case rel => exact ⟨i + 7, by go_num, by omega, K9.out⟩
          case measure => simp [intOf] <;> omega
        · have b1 : ¬ (i : Int) < 200 := by omega
          obtain ⟨wo, rfl⟩ : ∃ wo : World, wo = wr := ⟨_, rfl⟩
          have KO := Lib.hid hbr
          have cbo := CW.out wo KO.out
          have b0 : (0 : Int) < (n : Int) := by omega
          have hso := KO.out.size
          clear hlet p1 p2 p3 k1 k2 k3 k4 k5
          go_wp2_with (at_make; refine wpList_make_full _ rfl _ _ _ rfl wo.heap.size 3 i0 _ 1 Try.underlying24 INFO.out HZ.out HI1.out .i64 .i64 _ _ n rfl rfl rfl rfl (by rw [HI2.out]; omega) (by unfold maxLen; omega) (Nat.le_refl _) ?_; intro wn hown1 hg1; have r3 : wn.cell? ⟨wo.heap.size, 0, none⟩ = some (.int .i64 0) := (fn_cell h1 (fn_made hown1)).1; have r4 : wn.frozen? ⟨wo.heap.size, 0, none⟩ = false := (fn_cell h1 (fn_made hown1)).2; have hBn : Below wo.heap.size wo wn := (Below.refl _ _).grown hg1 (Nat.le_refl _) (fun k hk => (by cases hk)); have hbs : Below wo.heap.size wo (wn.setCell ⟨wo.heap.size, 0, none⟩ (.int .i64 1)) := hBn.setCell (p := ⟨wo.heap.size, 0, none⟩) (Nat.le_refl _) _; have hup := Lib.hid (fn_stored 0 1 (fn_made hown1)); have HBS := Lib.hid hbs; clear hown1 hg1 hBn hbs)
          obtain ⟨wy, hwc⟩ : ∃ wy, wy = wn.setCell ⟨wo.heap.size, 0, none⟩ (.int .i64 1) := ⟨_, rfl⟩
          have HWC := Lib.hid hwc
          have KC : Hid (Below wa.heap.size wa wy) := by rw [hwc]; exact KO.out.trans (HBS.out.mono hso)
          have hcell : Hid (∀ a, a < n → wy.cell? ⟨wo.heap.size, a, none⟩ = some (.int .i64 ((ctL [97] a : Nat) : Int))) := fun a ha => by
            have h1 := hup.out.1
            rw [show (fun a => if a = 0 then (1 : Int) else (fun _ => 0) a) = fun a => if a = 0 then 1 else 0 from rfl, ct_start h4] at h1
            rw [hwc]
            exact (fn_cell ha h1).1
          rw [← HWC.out]
          clear hwc hup HBS r3 r4
          go_loopw [15] (fun z wr => ∃ k : Nat, z = .int .i64 (k : Int) ∧ k ≤ 6 ∧ Below wy.heap.size wy wr) (fun z _ => 7 - (intOf z).toNat)
          case atStart => exact ⟨0, rfl, by omega, Below.refl _ _⟩
          case round =>
            obtain ⟨k, rfl, hk, hbr⟩ := hrel
            obtain ⟨wk, rfl⟩ : ∃ wk : World, wk = wr := ⟨_, rfl⟩
            have KK := Lib.hid (KC.out.trans (hbr.mono KC.out.size))
            have HBK := Lib.hid hbr
            have cbk := CW.out wk KK.out
            have hsc := KC.out.size
            by_cases hk5 : k ≤ 5
            · have b2 : (k : Int) ≤ 5 := by omega
              have q6 := Lib.hid (k6.out k wk (by omega) KK.out)
              obtain ⟨N, hN⟩ : ∃ N, N = (itL L [97] k).length := ⟨_, rfl⟩
              have hib : itB L [97] k = decide (N ≤ 400) := by rw [hN]; rfl
              have hit := it5 HG.out hk5
              have hNb : N ≤ 32768 := by omega
              have HNN := Lib.hid hN
              rw [hib] at q6
              have HIB := Lib.hid hib
              obtain ⟨u, hu⟩ : ∃ u, u = itS L [97] k := ⟨_, rfl⟩
              rw [← hu] at q6
              have HU := Lib.hid hu
              clear hbr hN hib hu hit
              go_wp2_with fail
              refine q6.out.mono ?_
              rintro e w11 ⟨rfl, b11⟩
              have K11 := Lib.hid (KK.out.trans (b11.mono KK.out.size))
              have HB11 := Lib.hid (HBK.out.trans (b11.mono HBK.out.size))
              have cb11 := CW.out w11 K11.out
              have q7 := Lib.hid (k7.out wo.heap.size n k w11 (Nat.le_refl _) K11.out (fun a ha => by
                have h := hcell.out a ha
                rw [HB11.out.cell (p := ⟨wo.heap.size, a, none⟩) (World.block_lt_of_cell? wy _ h)]; exact h) hk5)
              clear b11 cbk q6
              go_wp2_with fail
              refine q7.out.mono ?_
              rintro e w12 ⟨v0, rfl, ho, b12⟩
              have K12 := Lib.hid (K11.out.trans (b12.mono K11.out.size))
              have HB12 := Lib.hid (HB11.out.trans (b12.mono HB11.out.size))
              have cb12 := CW.out w12 K12.out
              obtain ⟨cv, hcv⟩ : ∃ cv, cv = cvL L k := ⟨_, rfl⟩
              have hcve : fnL n (fun a => ((ctL (itL L [97] k) a : Nat) : Int)) = cv := by rw [hcv, HN.out]; rfl
              rw [hcve] at ho
              have hcl : cv.length = n := by rw [← hcve, fnL_len]
              obtain ⟨gv, cc, _, hvv, hcc, _⟩ := ownI_cells ho (by rw [hcl]; exact h1)
              rw [hcl] at hvv hcc
              subst hvv
              have RV := Lib.hid ho.rd
              have hcg : Hid (∀ a, a < n → cv[a]? = some ((ctL (itL L [97] k) a : Nat) : Int)) := fun a ha => by rw [← hcve]; exact fnL_get _ ha
              have HCL := Lib.hid hcl
              have ps := Lib.hid (fun W (hW : Below w12.heap.size w12 W) => sum_c _ cv W (RV.out.below hW) (by rw [HCL.out]; omega) (by rw [hcv]; exact cv_bd HG.out hk5))
              rw [show sumL cv = (N : Int) by rw [hcv, cv_sum HOK.out, ← HNN.out]] at ps
              have q8 := Lib.hid (k8.out k w12 hk5 K12.out)
              rw [← HNN.out] at q8
              clear b12 cb11 q7 ho hcv hcve hcl
              go_wp2_with fail
              refine q8.out.mono ?_
              rintro e w13 ⟨rfl, b13⟩
              have K13 := Lib.hid (K12.out.trans (b13.mono K12.out.size))
              have HB13 := Lib.hid (HB12.out.trans (b13.mono HB12.out.size))
              have cb13 := CW.out w13 K13.out
              have B13 := Lib.hid b13
              have ps1 := Lib.hid (ps.out w13 b13)
              clear b13 cb12 q8
              go_wp2_with fail
              refine ps1.out.mono ?_
              rintro e w' ⟨rfl, rfl⟩
              go_wp2_with fail
              refine ps1.out.mono ?_
              rintro e w' ⟨rfl, rfl⟩
              by_cases hN4 : N ≤ 400
              · have e1 : decide (N ≤ 400) = true := decide_eq_true hN4
                have e2 : decide ((N : Int) ≤ 400) = true := decide_eq_true (by omega)
                have hud : u.data.toList = itL L [97] k := by rw [HU.out]; unfold itS; rw [HIB.out, e1, if_pos rfl, St_data]
                have huz : u.size = N := by rw [size_len, hud, ← HNN.out]
                have q9 := Lib.hid (countsOf_i u w13 (okL_word HOK.out (s := u) (by rw [hud]; exact itL_in HOK.out (in_one HOK.out) k) (by omega)))
                have HUD := Lib.hid hud
                have p9 := Lib.hid (fun W (h2 : u.size ≤ 200) => starts_c lg u W (by omega) (by rw [HLG.out, St_data, HUD.out]; exact fx_pre HG.out (itL_fix HG.out k).1 (by rw [← HUD.out, ← size_len]; exact h2)))
                subst huz
                clear hud
                go_wp2_with fail
                refine q9.out.mono ?_
                rintro e w14 ⟨v2, rfl, o2, b14⟩
                have K14 := Lib.hid (K13.out.trans (b14.mono K13.out.size))
                have HB14 := Lib.hid (HB13.out.trans (b14.mono HB13.out.size))
                have cb14 := CW.out w14 K14.out
                have B14 := Lib.hid (B13.out.trans (b14.mono B13.out.size))
                obtain ⟨g2, c2, _, hv2, hc2, _⟩ := ownI_cells o2 (by rw [cntL_len]; decide)
                rw [cntL_len] at hv2 hc2
                subst hv2
                have R2 := Lib.hid o2.rd
                have ps2 := Lib.hid (ps.out w14 B14.out)
                have RV2 := Lib.hid (RV.out.below B14.out)
                clear b14 cb13 q9 o2
                go_upto_region 29 with fail
                go_cut [192] from 172 to 192 (fun z wx => z = .bool false ∧ wx = w14)
                case first =>
                  by_cases h200 : u.size ≤ 200
                  · have e3 : decide ((u.size : Int) ≤ 200) = true := decide_eq_true (by omega)
                    have p10 := Lib.hid (p9.out w14 h200)
                    clear p9
                    go_wp2_with fail
                    refine ps2.out.mono ?_
                    rintro e w' ⟨rfl, rfl⟩
                    go_wp2_with fail
                    refine p10.out.mono ?_
                    rintro e w' ⟨rfl, rfl⟩
                    go_wp2_with fail
                    go_meet
                    case rel => exact ⟨rfl, rfl⟩
                  · have e3 : decide ((u.size : Int) ≤ 200) = false := decide_eq_false (by omega)
                    go_wp2_with fail
                    refine ps2.out.mono ?_
                    rintro e w' ⟨rfl, rfl⟩
                    go_wp2_with fail
                    go_meet
                    case rel => exact ⟨rfl, rfl⟩
                case rest =>
                  obtain ⟨rfl, hwd⟩ := hcut
                  obtain rfl : w14 = wc := hwd.symm
                  clear ps2 p9
                  go_wp2_with fail
                  go_loop [195] (fun z => ∃ j : Nat, z = .int .i64 (j : Int) ∧ j ≤ 4) (fun z => 4 - (intOf z).toNat)
                  case atStart => exact ⟨0, rfl, by omega⟩
                  case round =>
                    obtain ⟨j, rfl, hj⟩ := hrel
                    by_cases hj4 : j < 4
                    · have d0 : (j : Int) < 4 := by omega
                      have hx := rdI_cellX R2.out (cntL_get u.data.toList hj4)
                      have hout := fun (h : n ≤ j) => cnt_out HOK.out (itL_in HOK.out (in_one HOK.out) k) (i := j) (by rw [← HN.out]; exact h) hj4
                      have hin := fun (h : j < n) => rdI_cellX RV2.out (hcg.out j h)
                      rw [HUD.out] at hx
                      obtain ⟨ct, hct⟩ : ∃ ct, ct = ctL (itL L [97] k) j := ⟨_, rfl⟩
                      rw [← hct] at hx hout hin
                      clear hct
                      by_cases hjn : j < n
                      · have d1 : decide ((j : Int) < (n : Int)) = true := decide_eq_true (by omega)
                        have d2 : decide ((n : Int) ≤ (j : Int)) = false := decide_eq_false (by omega)
                        have d3 : (j : Int) < (n : Int) := by omega
                        have hy := hin hjn
                        clear hin hout
                        go_wp2_with fail
                        go_round
                        case rel => exact ⟨j + 1, by go_num, by omega⟩
                        case measure => simp [intOf] <;> omega
                      · have d1 : decide ((j : Int) < (n : Int)) = false := decide_eq_false (by omega)
                        have d2 : decide ((n : Int) ≤ (j : Int)) = true := decide_eq_true (by omega)
                        obtain rfl := hout (by omega)
                        clear hin hout
                        go_wp2_with fail
                        go_round
                        case rel => exact ⟨j + 1, by go_num, by omega⟩
                        case measure => simp [intOf] <;> omega
                    · obtain rfl : j = 4 := by omega
                      go_wp2_with fail
                      go_roundw
                      case rel => exact ⟨k + 1, by go_num, by omega, HB14.out⟩
                      case measure => simp [intOf] <;> omega
              · have e1 : decide (N ≤ 400) = false := decide_eq_false hN4
                have e2 : decide ((N : Int) ≤ 400) = false := decide_eq_false (by omega)
                go_wp2_with fail
                go_roundw
                case rel => exact ⟨k + 1, by go_num, by omega, HB13.out⟩
                case measure => simp [intOf] <;> omega
            · have b2 : ¬ (k : Int) ≤ 5 := by omega
              have q9 := Lib.hid (k9.out wk KK.out)
              clear hbr k6 k7 k8 hcell
              go_wp2_with fail
              refine q9.out.mono ?_
              rintro e w20 ⟨gs, rfl, hpre, hgs, b20⟩
              have K20 := Lib.hid (KK.out.trans (b20.mono KK.out.size))
              have cb20 := CW.out w20 K20.out
              have KD := Lib.hid (show Below wa.heap.size wa w20.drew from below_drewN K20.out 1)
              have cbD := CW.out _ KD.out
              have s1 := Lib.hid (fun W => starts_c gs ⟨#[97]⟩ W (by omega) hpre)
              have s2 := Lib.hid (fun W => starts_c ⟨#[97]⟩ ⟨#[97]⟩ W (by decide) (List.prefix_refl _))
              obtain ⟨F3, hF3⟩ : ∃ F3, F3 = facW (St (fxL L 400)) 3 := ⟨_, rfl⟩
              obtain ⟨F1, hF1⟩ : ∃ F1, F1 = facW (St (fxL L 400)) 1 := ⟨_, rfl⟩
              have hl400 : (St (fxL L 400)).size = 400 := by rw [St_size]; exact (fxL_fix HG.out 400).2
              have hF3l : F3.length ≤ 1000001 := by rw [hF3]; have := facW_len (St (fxL L 400)) 3; omega
              have kr := Lib.hid (fun v W (h : RdS W v F3) => rising_c v F3 W h hF3l (by rw [hF3]; exact facW_asc _ _))
              have kf := Lib.hid (fun W => FactorsOf_i (St (fxL L 400)) 1 W (fix_word HG.out 400 (by omega)) (by omega) (by omega))
              have k123 := Lib.hid (fun W (hW : Below wa.heap.size wa W) => k12.out 3 W (by omega) (by omega) hW)
              have k121 := Lib.hid (fun W (hW : Below wa.heap.size wa W) => k12.out 1 W (by omega) (by omega) hW)
              have k134 := Lib.hid (fun W (hW : Below wa.heap.size wa W) => k13.out 400 W (by omega) hW)
              obtain ⟨t4, ht4⟩ : ∃ t4, t4 = St (fxL L 400) := ⟨_, rfl⟩
              rw [← hF3] at k123
              rw [← hF1] at k121 kf
              rw [← ht4] at k134 kf
              clear b20 q9 k9 cbk k12 k13 hF3 hF1 ht4 hl400 hF3l hpre
              go_wp2_with fail
              go_region_law ((go_simp; first
                | (go_at_call 65; first | (refine (s2.out wB).mono ?_; rintro e w' ⟨rfl, rfl⟩) | (refine (s1.out w20.drew).mono ?_; rintro e w' ⟨rfl, rfl⟩))
                | (go_at_call 79; refine (k10.out w20.drew KD.out).mono ?_; rintro e wA ⟨rfl, bA⟩; have KA := Lib.hid (KD.out.trans (bA.mono KD.out.size)); have cA := CW.out wA KA.out; clear bA)
                | (go_at_call 80; first | (refine (k11.out wB KB.out).mono ?_; rintro e wC ⟨rfl, bC⟩; have KCC := Lib.hid (KB.out.trans (bC.mono KB.out.size)); have cC := CW.out wC KCC.out; clear bC) | (refine (k11.out wA KA.out).mono ?_; rintro e wB ⟨rfl, bB⟩; have KB := Lib.hid (KA.out.trans (bB.mono KA.out.size)); have cB := CW.out wB KB.out; clear bB))
                | (go_at_call 81; first | (refine (k121.out (wD.drewN d) KE.out).mono ?_; rintro e wF ⟨v4, rfl, o4, bF⟩; have KF := Lib.hid (KE.out.trans (bF.mono KE.out.size)); have cF := CW.out wF KF.out; obtain ⟨g4, c4, hv4, _⟩ := rdS_shape o4.rd; subst hv4; clear bF o4) | (refine (k123.out wC KCC.out).mono ?_; rintro e wD ⟨v3, rfl, o3, bD⟩; have KDD := Lib.hid (KCC.out.trans (bD.mono KCC.out.size)); have cD := CW.out wD KDD.out; have R3 := Lib.hid o3.rd; clear bD o3))
                | (go_at_call 50; refine (kr.out _ wD R3.out).mono ?_; rintro e w' ⟨rfl, d, rfl⟩; have KE := Lib.hid (show Below wa.heap.size wa (wD.drewN d) from below_drewN KDD.out d))
                | (go_at_call 82; refine (k134.out wF KF.out).mono ?_; rintro e wG ⟨rfl, bG⟩; have KG := Lib.hid (KF.out.trans (bG.mono KF.out.size)); have cG := CW.out wG KG.out; clear bG)
                | (go_at_call 48; refine (kf.out wG).mono ?_; rintro e wH ⟨v5, rfl, o5, bH⟩; have KH := Lib.hid (KG.out.trans (bH.mono KG.out.size)); have cH := CW.out wH KH.out; obtain ⟨g5, c5, hv5, _⟩ := rdS_shape o5.rd; subst hv5; clear bH o5)))
              all_goals
                go_wp2_with fail
                go_ret
                exact ⟨rfl, HBW.out _ KH.out⟩
end Go.Proofs.Ytlmciomoimfajaa
