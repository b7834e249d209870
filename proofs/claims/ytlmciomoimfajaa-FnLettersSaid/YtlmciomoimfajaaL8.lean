/- The walk of the law FnLetters: it returns true. Conditions: the code's bytes can be read; the library's variable MaxLen holds a number. -/
import Derived.Test.YtlmciomoimfajaaV8
import Derived.Test.YtlmciomoimfajaaV4
import Derived.Test.YtlmciomoimfajaaL1
import Derived.Test.YtlmciomoimfajaaL3
import Derived.Test.YtlmciomoimfajaaL7
import Derived.Deep.Cut
import Derived.Deep.CutRange
namespace Go.Proofs.Ytlmciomoimfajaa
open Go.RowKit
set_option linter.unusedVariables false

set_option maxRecDepth 100000 in
set_option maxHeartbeats 20000000 in
theorem lawLetters_w (a0 : Option Addr) (len0 cap0 : Nat) (z0 : List Int) (w : World) (w0 : IsRow .u8 w a0 len0 cap0 z0) {mx : Int} (hm : w.cell? ⟨0, 0, none⟩ = some (.int .i64 mx)) :
    Calls Try.prog 3 #[.slice a0 len0 cap0] w fun e w' => e = .returned (.bool true) ∧ Below w.heap.size w w' := by
  by_cases hbig : 1048576 < len0
  · have hd : decide ((1048576 : Int) < (len0 : Int)) = true := decide_eq_true (by omega)
    go_enter Try.func3, Try.ntmps3
    go_wp2
    go_ret
    exact ⟨rfl, Below.refl _ _⟩
  · have hd : decide ((1048576 : Int) < (len0 : Int)) = false := decide_eq_false (by omega)
    have hlen : len0 ≤ 1048576 := by omega
    have hmb := World.block_lt_of_cell? w _ hm
    have HM := Lib.hid (fun W (hb : Below w.heap.size w W) => show W.cell? ⟨0, 0, none⟩ = some (.int .i64 mx) by rw [hb.cell (p := ⟨0, 0, none⟩) hmb]; exact hm)
    have HR := Lib.hid (fun W (hb : Below w.heap.size w W) => w0.keep hb)
    have c1 := Lib.hid (makeWord_c a0 len0 cap0 z0 0 14 w w0 hlen (by omega) (by omega))
    clear hm w0 hbig hmb
    go_enter Try.func3, Try.ntmps3
    go_wp2_with fail
    refine c1.out.mono ?_
    rintro e w1 ⟨s, rfl, hs, hlet, hb1⟩
    have HB1 := Lib.hid hb1
    have HS := Lib.hid (letL_word hlet (by omega) (by rw [← size_len]; omega))
    have c2 := Lib.hid (makeWord_c a0 len0 cap0 z0 30 6 w1 (HR.out w1 hb1) hlen (by omega) (by omega))
    clear c1 hlet hb1
    go_wp2_with fail
    refine c2.out.mono ?_
    rintro e w2 ⟨v, rfl, hv, hlet, hb2⟩
    have HB2 := Lib.hid (HB1.out.trans (hb2.mono HB1.out.size))
    have HV := Lib.hid (letL_word hlet (by omega) (by rw [← size_len]; omega))
    have c3 := Lib.hid (countsOf_i s w2 HS.out)
    clear c2 hlet hb2 HB1
    go_wp2_with fail
    refine c3.out.mono ?_
    rintro e w3 ⟨vC, rfl, oC, bC⟩
    have HB3 := Lib.hid (HB2.out.trans (bC.mono HB2.out.size))
    obtain ⟨gC, cC, hvC⟩ := own_shape oC (by simp [cntL])
    subst hvC
    rw [cntL_len] at oC ⊢
    have RC := Lib.hid oC.rd
    have c4 := Lib.hid (turnWord_i s w3 HS.out)
    clear c3 oC bC HB2
    go_wp2_with fail
    refine c4.out.mono ?_
    rintro e w4 ⟨rfl, b4⟩
    have HB4 := Lib.hid (HB3.out.trans (b4.mono HB3.out.size))
    have RC4 := Lib.hid (RC.out.below b4)
    have c5 := Lib.hid (sum_c (.slice (some ⟨gC, 0, none⟩) 4 cC) (cntL s.data.toList) w4 RC4.out (by rw [cntL_len]; omega) (by
      intro x hx
      have hl : s.data.toList.length ≤ 14 := by rw [← size_len]; exact hs
      have h := fun c : UInt8 => List.count_le_length (a := c) (l := s.data.toList)
      have := h 97; have := h 98; have := h 99; have := h 100
      simp only [cntL, List.mem_cons, List.not_mem_nil, or_false] at hx
      omega))
    rw [cntL_sum (wordL_all HS.out), ← size_len] at c5
    have hn0 : ((s.size : Int) != (s.size : Int)) = false := by simp
    have c6 := Lib.hid (countsOf_i (rev s) w4 (rev_word HS.out))
    rw [rev_data, cntL_rev] at c6
    clear c4 b4 RC
    go_wp2_with fail
    refine c5.out.mono ?_
    rintro e w' ⟨rfl, rfl⟩
    go_wp2_with fail
    refine c6.out.mono ?_
    rintro e w5 ⟨vD, rfl, oD, bD⟩
    have HB5 := Lib.hid (HB4.out.trans (bD.mono HB4.out.size))
    have RC5 := Lib.hid (RC4.out.below bD)
    have RD := Lib.hid oD.rd
    obtain ⟨gD, cD, hvD⟩ := own_shape oD (by simp [cntL])
    subst hvD
    rw [cntL_len] at oD RD ⊢
    have c7 := Lib.hid (same_c (.slice (some ⟨gD, 0, none⟩) 4 cD) (.slice (some ⟨gC, 0, none⟩) 4 cC) (cntL s.data.toList) w5 RD.out RC5.out (by rw [cntL_len]; omega))
    clear c5 c6 oD bD HB4 RC4 RD
    go_wp2_with fail
    refine c7.out.mono ?_
    rintro e w' ⟨rfl, d5, rfl⟩
    have c8 := Lib.hid (turnWord_i (rev s) (w5.drewN d5) (rev_word HS.out))
    rw [rev_rev] at c8
    clear c7
    go_wp2_with fail
    refine c8.out.mono ?_
    rintro e w6 ⟨rfl, b6⟩
    have HB6 := Lib.hid ((below_drewN HB5.out d5).trans (b6.mono HB5.out.size))
    have RC6 := Lib.hid (RdI.below (RC5.out.drewN d5) b6)
    have c9 := Lib.hid (flip_c s w6 (by omega))
    clear c8 b6 HB5 RC5
    go_wp2_with fail
    refine c9.out.mono ?_
    rintro e w7 ⟨rfl, b7⟩
    have HB7 := Lib.hid (HB6.out.trans (b7.mono HB6.out.size))
    have RC7 := Lib.hid (RC6.out.below b7)
    have c10 := Lib.hid (wordOk_i s w7 (by omega))
    rw [HS.out] at c10
    clear c9 b7 HB6 RC6
    go_wp2_with fail
    refine c10.out.mono ?_
    rintro e w' ⟨rfl, rfl⟩
    have c11 := Lib.hid (makeSize_c a0 len0 cap0 z0 50 0 s.size w7 (HR.out w7 HB7.out) hlen (by omega) (by omega) (by omega) (by omega))
    clear c10
    go_wp2_with fail
    refine c11.out.mono ?_
    rintro e w8 ⟨k1, rfl, hk1, hk2, b8⟩
    obtain ⟨k, rfl⟩ : ∃ k : Nat, k1 = (k : Int) := ⟨k1.toNat, by omega⟩
    have HB8 := Lib.hid (HB7.out.trans (b8.mono HB7.out.size))
    have RC8 := Lib.hid (RC7.out.below b8)
    have hk : k ≤ s.size := by omega
    have c12 := Lib.hid (shiftWord_c s k w8 HS.out hk)
    clear c11 b8 HB7 RC7 hk1 hk2
    go_wp2_with fail
    refine c12.out.mono ?_
    rintro e w9 ⟨rfl, d8, hw9⟩
    have HB9 : Hid (Below w.heap.size w w9) := by rw [hw9]; exact below_drewN HB8.out d8
    have RC9 : Hid (RdI w9 (.slice (some ⟨gC, 0, none⟩) 4 cC) (cntL s.data.toList)) := by rw [hw9]; exact RC8.out.drewN d8
    clear hw9 HB8 RC8
    -- region 11
    have hcl : w9.cell? ⟨gC, 1, none⟩ = some (.int .i64 (s.data.toList.count 98 : Int)) := by
      rcases RC9.out with ⟨h, _⟩ | ⟨g, c, h, hc, hx⟩
      · cases h
      · obtain ⟨rfl⟩ : g = gC := by cases h; rfl
        exact hx 1 _ rfl
    have hcC : 4 ≤ cC := by
      rcases RC9.out with ⟨h, _⟩ | ⟨g, c, h, hc, hx⟩
      · cases h
      · cases h; exact hc
    obtain ⟨m, hm⟩ : ∃ m : Nat, (s.size : Int) - (k : Int) = (m : Int) := ⟨s.size - k, by omega⟩
    have hmw : IntKind.i64.wrap (m : Int) = (m : Int) := IntWalk.i64_in _ (by omega)
    have cS := Lib.hid (fun d => show Calls Try.prog 18 #[.string (rotS s k), .int .i64 (m : Int)] (w9.drewN d) fun e w' => e = .returned (.string s) ∧ ∃ n, w' = (w9.drewN d).drewN n by
      have hz := rot_len s hk
      have := shiftWord_c (rotS s k) m (w9.drewN d) (rotW HS.out k) (by omega)
      rw [show m = s.size - k by omega, rot_undo s hk, ← show m = s.size - k by omega] at this
      exact this)
    have cA := Lib.hid (fun d => show Calls Try.prog 19 #[.string s, .string (rotS s k)] (w9.drewN d) fun e w' => e = .returned (.bool true) ∧ w' = w9.drewN d by
      have := areConjugate_i s (rotS s k) mx (w9.drewN d) (HM.out w9 HB9.out) (by omega) (by rw [rot_len s hk]; omega)
      rw [conj_rot HS.out hk] at this
      exact this.mono fun _ _ ⟨h1, h2⟩ => ⟨h1, h2.symm⟩)
    have cL := Lib.hid (fun d => show Calls Try.prog 20 #[.string s, .string ⟨#[98]⟩] (w9.drewN d) fun e w' => e = .returned (.int .i64 (s.data.toList.count 98 : Int)) ∧ w' = w9.drewN d from (countLetter_b s (w9.drewN d) HS.out).mono fun _ _ ⟨h1, h2⟩ => ⟨h1, h2.symm⟩)
    have hse : (s.toList != s.toList) = false := by simp
    obtain ⟨q, hq⟩ : ∃ q : Int, q = (s.data.toList.count 98 : Int) := ⟨_, rfl⟩
    rw [← hq] at hcl cL
    have hqq : (q != q) = false := by simp
    clear c12 hq
    go_wp2_with fail
    go_quiet (first | (go_at_call 18; exact Calls.quiet_of (cS.out _)) | (go_at_call 19; exact Calls.quiet_of_same (cA.out _)) | (go_at_call 20; exact Calls.quiet_of_same (cL.out _)))
    have HS' := HS.out
    clear cS cA cL hcl hcC hmw hqq hse hm
    obtain ⟨wA, hwA⟩ : ∃ wA, wA = w9.drewN nq := ⟨_, rfl⟩
    have HBA : Hid (Below w.heap.size w wA) := by rw [hwA]; exact below_drewN HB9.out nq
    rw [← hwA]
    clear hwA HB9 RC9 HS'
    go_upto_if 92 with fail
    go_cut [] from 92 to 131 (fun wx => Below w.heap.size w wx)
    case first =>
      by_cases hv0 : v.size = 0
      · have he : v.toList.isEmpty = true := (isEmpty_iff v).2 hv0
        have he2 : v.toList = [] := by simpa using he
        have he3 : (!v.toList.isEmpty) = false := by rw [he]; rfl
        rw [he3]
        go_wp2_with fail
        go_meet
        case rel => exact HBA.out
      · have hv1 : 1 ≤ v.size := by omega
        have he := isEmpty_no hv1
        have he2 : ¬ v.toList = [] := by intro e; rw [e] at he; cases he
        have he3 : (!v.toList.isEmpty) = true := by rw [he]; rfl
        rw [he3]
        have cP := Lib.hid (PlacesIn_i s v wA HS.out HV.out hv1)
        go_wp2_with fail
        refine cP.out.mono ?_
        rintro e wB ⟨vL, rfl, oL, bL⟩
        have HBB := Lib.hid (HBA.out.trans (bL.mono HBA.out.size))
        have RL := Lib.hid oL.rd
        obtain ⟨ga, cc, hvL, _⟩ := rdI_shape RL.out
        subst hvL
        have hpl := plcW_len s v
        have hhas := Lib.hid (fun i : Nat => has_c (.slice ga (plcW s v).length cc) (plcW s v) (i : Int) wB RL.out (by omega))
        have hfac := Lib.hid (isFactor_i s v mx wB (HM.out wB HBB.out) HS.out HV.out)
        rw [plc_has hv1] at hfac
        have hmem := Lib.hid (fun (k : Nat) => @plc_mem s v k)
        have hend := Lib.hid (fun (k : Nat) => @plc_end s v k)
        obtain ⟨N, hN⟩ : ∃ N, N = (plcW s v).length := ⟨_, rfl⟩
        rw [← hN] at hpl hhas hfac hend ⊢
        obtain ⟨z, hz⟩ : ∃ z, z = s.size + 1 - v.size := ⟨_, rfl⟩
        have hz2 : z + v.size = s.size + 1 ∨ (z = 0 ∧ s.size < v.size) := by omega
        rw [← hz] at hend
        clear cP oL bL RL hN hz HBA he he2 he3
        go_wp2_with fail
        go_loop [10, 11] (fun y z' => ∃ i n : Nat, z' = .int .i64 (i : Int) ∧ y = .int .i64 (n : Int) ∧ i ≤ z ∧ n ≤ i ∧ Hid (n = (selL (Lib.occAt s.data.toList v.data.toList) i 0).length)) (fun _ z' => s.size + 2 - (intOf z').toNat)
        case atStart => exact ⟨0, 0, rfl, rfl, by omega, by omega, rfl⟩
        case round =>
          obtain ⟨i, n, rfl, rfl, hi, hn, hcnt⟩ := hrel
          have e1 : IntKind.i64.wrap ((i : Int) + (v.size : Int)) = (i : Int) + (v.size : Int) := IntWalk.i64_in _ (by omega)
          have en : IntKind.i64.wrap ((i : Int) + 1) = (i : Int) + 1 := IntWalk.i64_in _ (by omega)
          have en2 : IntKind.i64.wrap ((n : Int) + 1) = (n : Int) + 1 := IntWalk.i64_in _ (by omega)
          by_cases hlt : i + v.size ≤ s.size
          · have b0 : (i : Int) + (v.size : Int) ≤ (s.size : Int) := by omega
            have b1 : (i : Int) ≤ (i : Int) + (v.size : Int) := by omega
            have b2 : 0 ≤ (i : Int) + (v.size : Int) := by omega
            have e2 : ((i : Int) + (v.size : Int)).toNat = i + v.size := by omega
            have hE := occ_eq s v i hlt
            have hiz : i + 1 ≤ z := by omega
            have hms : s.size + 2 - (i + 1) < s.size + 2 - i := by omega
            cases ho : Lib.occAt s.data.toList v.data.toList i
            · have hnx : Hid (n = (selL (Lib.occAt s.data.toList v.data.toList) (i + 1) 0).length) := by unfold Hid; rw [selLen_no ho]; exact hcnt.out
              rw [ho] at hE
              clear ho
              go_wp2_with fail
              go_round
              case rel => exact ⟨i + 1, n, by go_num, rfl, hiz, by omega, hnx⟩
              case measure => simp [intOf] <;> omega
            · have hnx : Hid (n + 1 = (selL (Lib.occAt s.data.toList v.data.toList) (i + 1) 0).length) := by unfold Hid; rw [selLen_yes ho, ← hcnt.out]
              have hcall := hhas.out i
              rw [decide_eq_true (hmem.out i hlt ho)] at hcall
              have hcall := Lib.hid hcall
              rw [ho] at hE
              clear ho
              go_wp2_with fail
              refine hcall.out.mono ?_
              rintro e w' ⟨rfl, rfl⟩
              go_wp2_with fail
              go_round
              case rel => exact ⟨i + 1, n + 1, by go_num, by go_num, hiz, by omega, hnx⟩
              case measure => simp [intOf] <;> omega
          · have b0 : decide ((i : Int) + (v.size : Int) ≤ (s.size : Int)) = false := decide_eq_false (by omega)
            have hnN := hend.out i hi (by omega)
            rw [← hcnt.out] at hnN
            subst hnN
            have hnn : ((n : Int) != (n : Int)) = false := by simp
            clear hcnt hend
            by_cases hn0 : 0 < n
            · have d1 : decide (0 < (n : Int)) = true := decide_eq_true (by omega)
              have d2 : (0 : Int) < (n : Int) := by omega
              rw [d1] at hfac
              go_wp2_with fail
              refine hfac.out.mono ?_
              rintro e w' ⟨rfl, rfl⟩
              go_wp2_with fail
              go_meet
              case rel => exact HBB.out
            · have d1 : decide (0 < (n : Int)) = false := decide_eq_false (by omega)
              have d2 : ¬ (0 : Int) < (n : Int) := by omega
              rw [d1] at hfac
              go_wp2_with fail
              refine hfac.out.mono ?_
              rintro e w' ⟨rfl, rfl⟩
              go_wp2_with fail
              go_meet
              case rel => exact HBB.out
    case rest =>
      have HBC := Lib.hid hcut
      have cC := Lib.hid (commonStart_i s v wc HS.out HV.out)
      clear hcut
      go_wp2_with fail
      refine cC.out.mono ?_
      rintro e wD ⟨p, rfl, hp1, hp2, hsame, hdiff, d, hwD⟩
      have HBD : Hid (Below w.heap.size w wD) := by rw [hwD]; exact below_drewN HBC.out d
      have hpre : ((s.extract 0 p).toList == (v.extract 0 p).toList) = true := by rw [common_pre hsame]; simp
      have HDF := Lib.hid hdiff
      clear hwD HBC cC hsame hdiff
      have p1 : (p : Int) ≤ (s.size : Int) := by omega
      have p2 : (p : Int) ≤ (v.size : Int) := by omega
      go_upto_region 26 with fail
      go_cut [178] from 135 to 178 (fun s178 wx => s178 = .bool false ∧ Below w.heap.size w wx)
      case first =>
        have q1 : decide ((p : Int) < 0) = false := decide_eq_false (by omega)
        have q2 : decide ((s.size : Int) < (p : Int)) = false := decide_eq_false (by omega)
        have q3 : decide ((v.size : Int) < (p : Int)) = false := decide_eq_false (by omega)
        have q4 : decide (s.size < p) = false := decide_eq_false (by omega)
        have q5 : decide (v.size < p) = false := decide_eq_false (by omega)
        by_cases h1 : p < s.size
        · have h1i : decide (p < s.size) = true := decide_eq_true (by omega)
          by_cases h2 : p < v.size
          · have h2i : decide (p < v.size) = true := decide_eq_true (by omega)
            have h3 : ((s[p].toNat : Int) == (v[p].toNat : Int)) = false := by
              have := HDF.out h1 h2
              rw [get_some s p h1, get_some v p h2] at this
              rw [beq_eq_false_iff_ne]
              exact fun e => this (by rw [byte_inj e])
            go_quiet (fail)
            go_wp2_with fail
            go_meet
            case rel => exact ⟨rfl, below_drewN HBD.out _⟩
          · have h2i : decide (p < v.size) = false := decide_eq_false (by omega)
            go_quiet (fail)
            go_wp2_with fail
            go_meet
            case rel => exact ⟨rfl, below_drewN HBD.out _⟩
        · have h1i : decide (p < s.size) = false := decide_eq_false (by omega)
          go_quiet (fail)
          go_wp2_with fail
          go_meet
          case rel => exact ⟨rfl, below_drewN HBD.out _⟩
      case rest =>
        obtain ⟨rfl, hbE⟩ := hcut
        have HBE := Lib.hid hbE
        have cX := Lib.hid (swapLetters_i s bcda wc HS.out rfl bcda_one)
        have hxw := Lib.hid (swap_word HS.out)
        have hxb := Lib.hid (swap_back HS.out)
        have hxz : (St (swapL bcda s.data.toList)).size = s.size := by rw [St_size, swapL_len, ← size_len]
        obtain ⟨x, hx⟩ : ∃ x, x = St (swapL bcda s.data.toList) := ⟨_, rfl⟩
        rw [← hx] at cX hxw hxb hxz
        have cX2 : Hid (Calls Try.prog 25 #[.string s, .string ⟨#[98, 99, 100, 97]⟩] wc fun e w' => e = .returned (.tuple #[.string x, .bool true]) ∧ Below wc.heap.size wc w') := cX
        clear cX hx hbE HBD hpre HDF p1 p2 hp1 hp2
        go_wp2_with fail
        refine cX2.out.mono ?_
        rintro e wF ⟨rfl, bF⟩
        have HBF := Lib.hid (HBE.out.trans (bF.mono HBE.out.size))
        have cY := Lib.hid (swapLetters_i x dabc wF hxw.out rfl dabc_one)
        rw [hxb.out] at cY
        have cY2 : Hid (Calls Try.prog 25 #[.string x, .string ⟨#[100, 97, 98, 99]⟩] wF fun e w' => e = .returned (.tuple #[.string s, .bool true]) ∧ Below wF.heap.size wF w') := cY
        clear cX2 cY bF HBE
        go_wp2_with fail
        refine cY2.out.mono ?_
        rintro e wG ⟨rfl, bG⟩
        have HBG := Lib.hid (HBF.out.trans (bG.mono HBF.out.size))
        have cF := Lib.hid (isFactor_i s ⟨#[]⟩ mx wG (HM.out wG HBG.out) HS.out (by decide))
        rw [contains_nil] at cF
        have cB1 := Lib.hid (beforeWord_i s v wG HS.out HV.out)
        have cB2 := Lib.hid (beforeWord_i s s wG HS.out HS.out)
        rw [show ltB s s = false from bytesLess_irr _] at cB2
        obtain ⟨c, hc⟩ : ∃ c, Op.bytesLess s.toList v.toList = c := ⟨_, rfl⟩
        rw [show ltB s v = c from hc] at cB1
        have hcc : (c == c) = true := by simp
        have hss : (s.toList == s.toList) = true := by simp
        clear cY2 bG HBF hxw hxb
        go_wp2_with fail
        refine cF.out.mono ?_
        rintro e w' ⟨rfl, rfl⟩
        go_wp2_with fail
        refine cB1.out.mono ?_
        rintro e w' ⟨rfl, rfl⟩
        go_wp2_with fail
        refine cB2.out.mono ?_
        rintro e w' ⟨rfl, rfl⟩
        go_wp2_with fail
        go_ret
        exact ⟨rfl, HBG.out⟩
end Go.Proofs.Ytlmciomoimfajaa
