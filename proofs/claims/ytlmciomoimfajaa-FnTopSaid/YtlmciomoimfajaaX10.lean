/- Contract of CountAfter in the program: how many letters of each kind a word has that was put through so many times. Conditions: a valid substitution whose images can be read, a short word over its letters. -/
import Derived.Test.YtlmciomoimfajaaX9
import Derived.StillTailTactics
namespace Go.Proofs.Ytlmciomoimfajaa
open Go.RowKit
set_option linter.unusedVariables false

theorem sumTo_mono (f : Nat → Nat) {k : Nat} : ∀ {m}, k ≤ m → sumTo f k ≤ sumTo f m
  | 0, h => by rw [show k = 0 by omega]; exact Nat.le_refl _
  | m + 1, h => by
    rcases Nat.eq_or_lt_of_le h with rfl | h
    · exact Nat.le_refl _
    · have := sumTo_mono f (k := k) (m := m) (by omega)
      simp only [sumTo]; omega
theorem ctL_le (l : List UInt8) (i : Nat) : ctL l i ≤ l.length := List.count_le_length
theorem mtL_le {L : List ByteArray} (h : OkL L) (i : Nat) {k : Nat} (hk : k < L.length) : mtL L i k ≤ 8 := by
  have h1 := (imL_bd h (letU_inL h hk)).2.1
  have h2 := List.count_le_length (a := letU i) (l := imL L (letU k))
  unfold mtL; omega
set_option maxRecDepth 20000 in
set_option maxHeartbeats 8000000 in
theorem countAfter_i (ga : Option Addr) (n c : Nat) (L : List ByteArray) (gc cc : Nat) (l : List UInt8) (m : Nat) (w : World) (h : RdSub w ga n c L) (hok : OkL L) (hl : ∀ x ∈ l, inL L x) (hlz : l.length ≤ 1000) (hcc : n ≤ cc)
    (hrd : ∀ a, a < n → w.cell? ⟨gc, a, none⟩ = some (.int .i64 ((ctL l a : Nat) : Int))) (hm : m ≤ 40) (hbig : (itL L l m).length ≤ 1000000) :
    Calls Try.prog 76 #[sbV ga n c, .slice (some ⟨gc, 0, none⟩) n cc, .int .i64 (m : Int)] w fun e w' => ∃ v, e = .returned (.tuple #[v, .bool true]) ∧ OwnI w' w.heap.size v (fnL n (fun a => ((ctL (itL L l m) a : Nat) : Int))) ∧ Below w.heap.size w w' := by
  have hn := h.1
  have h4 := hok.four
  have h0 := hok.one
  have hn4 : n ≤ 4 := by omega
  have hn1 : 1 ≤ n := by omega
  have h1 := Lib.hid (fun W (hW : Below w.heap.size w W) => substOk_i ga n c L W (h.below hW) hok)
  have hM := Lib.hid (fun W (hW : Below w.heap.size w W) => matrix_c ga n c L W (h.below hW) hok)
  have h3 := fun W => Lib.hid (within_c (m : Int) 0 40 W)
  rw [inB_iff.2 (show (0 : Int) ≤ (m : Int) ∧ (m : Int) ≤ 40 by omega)] at h3
  have h5 := fun a W => Lib.hid (show Calls Try.prog 88 #[.int .i64 ((ctL l a : Nat) : Int), .int .i64 0, .int .i64 1000] W fun e w' => e = .returned (.bool true) ∧ W = w' by
    have := within_c ((ctL l a : Nat) : Int) 0 1000 W
    rw [inB_iff.2 (show (0 : Int) ≤ ((ctL l a : Nat) : Int) ∧ ((ctL l a : Nat) : Int) ≤ 1000 by have := ctL_le l a; omega)] at this
    exact this)
  have hgl : gc < w.heap.size := World.block_lt_of_cell? w _ (hrd 0 (by omega))
  have HRD := Lib.hid (fun W (hW : Below w.heap.size w W) a (ha : a < n) => show W.cell? ⟨gc, a, none⟩ = some (.int .i64 ((ctL l a : Nat) : Int)) by rw [hW.cell (p := ⟨gc, a, none⟩) hgl]; exact hrd a ha)
  unfold sbV at h1 hM ⊢
  have hba : Below w.heap.size w (w.alloc (.cells #[.slice ga n c] 67)) := (Below.refl _ _).alloc (Nat.le_refl _) _
  have cw := box_cell w (.slice ga n c) 67
  obtain ⟨wa, hwa⟩ : ∃ wa, wa = w.alloc (.cells #[.slice ga n c] 67) := ⟨_, rfl⟩
  have hszw : w.heap.size < wa.heap.size := by rw [hwa]; simp
  rw [← hwa] at cw hba
  have CW := Lib.hid (fun W (hW : Below wa.heap.size wa W) => show W.cell? ⟨w.heap.size, 0, none⟩ = some (.slice ga n c) by rw [hW.cell (p := ⟨w.heap.size, 0, none⟩) hszw]; exact cw)
  have HBA := Lib.hid hba
  have HWA := Lib.hid hwa
  have HN := Lib.hid hn
  have HOK := Lib.hid hok
  have HLI := Lib.hid hl
  have HB := Lib.hid hbig
  clear h hwa hba cw hok hl hrd hbig hn h4 h0 hlz
  go_enter Try.func76, Try.ntmps76
  go_wp2_with fail
  rw [← HWA.out]
  refine (h1.out wa HBA.out).mono ?_
  rintro e w1 ⟨rfl, b1⟩
  have K1 := Lib.hid b1
  have cb := CW.out w1 b1
  clear b1
  have d1 : ((n : Int) != (n : Int)) = false := by simp
  go_wp2_with fail
  refine (h3 _).out.mono ?_
  rintro e w' ⟨rfl, rfl⟩
  go_wp2_with fail
  go_loop [35] (fun z => ∃ a : Nat, z = .int .i64 (a : Int) ∧ a ≤ n) (fun z => n - (intOf z).toNat)
  case atStart => exact ⟨0, rfl, by omega⟩
  case round =>
    obtain ⟨a, rfl, ha⟩ := hrel
    by_cases hlt : a < n
    · have ca := HRD.out w1 (HBA.out.trans (K1.out.mono (by omega))) a hlt
      have b1 : (a : Int) < (n : Int) := by omega
      have q5 := h5 a
      obtain ⟨x, hx⟩ : ∃ x : Int, x = ((ctL l a : Nat) : Int) := ⟨_, rfl⟩
      rw [← hx] at ca q5
      clear hx
      go_wp2_with fail
      refine (q5 _).out.mono ?_
      rintro e w' ⟨rfl, rfl⟩
      go_wp2_with fail
      go_round
      case rel => exact ⟨a + 1, by go_num, by omega⟩
      case measure => simp [intOf] <;> omega
    · obtain rfl : n = a := by omega
      have b1 : decide ((n : Int) < (n : Int)) = false := decide_eq_false (by omega)
      have hE : Hid (Below wa.heap.size wa (w1.drew.alloc (.cells #[] 3))) := (show Below wa.heap.size wa w1.drew from below_drewN K1.out 1).alloc K1.out.size _
      have hOE : Hid (OwnI (w1.drew.alloc (.cells #[] 3)) wa.heap.size (.slice (some ⟨w1.heap.size, 0, none⟩) 0 0) []) := ownI_empty w1.drew K1.out.size
      have hsz1 := K1.out.size
      obtain ⟨cv, hcv⟩ : ∃ cv, cv = fnL n (fun a => ((ctL l a : Nat) : Int)) := ⟨_, rfl⟩
      have hcr : Hid (∀ (j : Nat) (y : Int), cv[j]? = some y → (w1.drew.alloc (.cells #[] 3)).cell? ⟨gc, j, none⟩ = some (.int .i64 y)) := fun j y hy => by
        have hj : j < n := by have := (List.getElem?_eq_some_iff.1 hy).1; rw [hcv, fnL_len] at this; exact this
        rw [hcv, fnL_get _ hj] at hy
        rw [← Option.some.inj hy]
        exact HRD.out _ (HBA.out.trans (hE.out.mono (by omega))) j hj
      have hcl : cv.length = n := by rw [hcv, fnL_len]
      have HCV := Lib.hid hcv
      have HCL := Lib.hid hcl
      have cb0 := CW.out w1 K1.out
      have cbE := CW.out _ hE.out
      have cbX := CW.out (w1.alloc (.cells #[] 3)) (K1.out.alloc K1.out.size _)
      have cbD := CW.out w1.drew (below_drewN K1.out 1)
      clear hcv hcl h1 h5 b1 d1
      go_upto_region 9 with fail
      go_cut [10, 11] from 43 to 47 (fun s10 s11 wx => Hid (OwnI wx wa.heap.size s10 cv) ∧ Hid (OwnX wx wa.heap.size s11 n n (fun i k => ((mtL L i k : Nat) : Int))) ∧ Below wa.heap.size wa wx)
      case first =>
        go_region_law (first | (refine stepCp (w0 := w1.drew.alloc (.cells #[] 3)) rfl (.tmp 43) (.tmp 44) rfl wa.heap.size w1.heap.size (by first | rfl | simp [Act.eval]) hOE.out cv gc n cc HCL.out hn1 (by omega) hcr.out (by first | rfl | simp [Act.eval]) hE.out.size ?_; intro v1 wA ho1 hg1; have hbA : Below wa.heap.size wa wA := hE.out.grown hg1 hE.out.size (fun q hq => by cases hq; exact hsz1); have cbA := CW.out wA hbA) | (go_simp; go_at_call 119; refine (hM.out wA (HBA.out.trans (hbA.mono (by omega)))).mono ?_; rintro e w2 ⟨vM, rfl, hX, b2⟩))
        all_goals
          go_wp2_with fail
          go_meet
          case rel =>
            have hszA := hbA.size
            exact ⟨by unfold OwnI at ho1 ⊢; exact World.ownsRow.kept ho1 (row := none) ⟨b2.os, b2.tape, b2.output, b2.size, fun k hk _ => b2.block k hk⟩ (by cases hv : v1.ownBlock with
              | none => exact .inl rfl
              | some q => exact .inr (by intro e; cases e)), hX.base hszA, hbA.trans (b2.mono hszA)⟩
      case rest =>
        obtain ⟨ho10, ho11, hbc⟩ := hcut
        have hszc := hbc.size
        obtain ⟨gn0, cn0, _, hv10, _⟩ := ownI_cells ho10.out (by rw [HCL.out]; exact hn1)
        rw [HCL.out] at hv10
        subst hv10
        obtain ⟨ga2, c2, hv11, hrd11⟩ := ho11.out.read
        subst hv11
        have HX := Lib.hid (fun W (hW : Below wc.heap.size wc W) i (hi : i < n) => show ∃ g gi ci, ga2 = some ⟨g, 0, none⟩ ∧ n ≤ c2 ∧ W.cell? ⟨g, i, none⟩ = some (.slice (some ⟨gi, 0, none⟩) n ci) ∧ n ≤ ci ∧ ∀ j, j < n → W.cell? ⟨gi, j, none⟩ = some (.int .i64 ((mtL L i j : Nat) : Int)) by
          obtain ⟨g, gi, ci, e1, e2, e3, e4, e5⟩ := hrd11 i hi
          refine ⟨g, gi, ci, e1, e2, ?_, e4, fun j hj => ?_⟩
          · rw [hW.cell (p := ⟨g, i, none⟩) (World.block_lt_of_cell? wc _ e3)]; exact e3
          · rw [hW.cell (p := ⟨gi, j, none⟩) (World.block_lt_of_cell? wc _ (e5 j hj))]; exact e5 j hj)
        have hst : Hid (OwnI wc wa.heap.size (.slice (some ⟨gn0, 0, none⟩) n cn0) (fnL n (fun a => ((ctL (itL L l 0) a : Nat) : Int)))) := by
          unfold Hid; rw [show itL L l 0 = l from rfl, ← HCV.out]; exact ho10.out
        have HBC := Lib.hid (HBA.out.trans (hbc.mono (by omega)))
        have hmo := Lib.hid (fun j k => itL_mono HOK.out HLI.out (j := j) k)
        have hin := Lib.hid (fun j => itL_in HOK.out HLI.out j)
        have hcap := Lib.hid (fun i j => cnt_ap HOK.out i (itL L l j) (itL_in HOK.out HLI.out j))
        have hml := Lib.hid (fun i k (hk : k < n) => mtL_le HOK.out i (k := k) (by rw [← HN.out]; exact hk))
        obtain ⟨i0, hi0, hz, hi1, hi2⟩ := info_parts info_int
        have INFO := Lib.hid hi0
        have HZ := Lib.hid hz
        have HI1 := Lib.hid hi1
        have HI2 := Lib.hid hi2
        clear ho10 ho11 hbc hrd11 hE hOE hcr cb0 cbE cbX cbD hi0 hz hi1 hi2 hM HRD K1 CW
        go_wp2_with fail
        go_loopw [10, 49] (fun y z wr => ∃ (j : Nat) (v : Value), v = y ∧ z = .int .i64 (j : Int) ∧ j ≤ m ∧ Hid (OwnI wr wa.heap.size v (fnL n (fun a => ((ctL (itL L l j) a : Nat) : Int)))) ∧ Below wc.heap.size wc wr) (fun _ z _ => m - (intOf z).toNat)
        case atStart => exact ⟨0, _, rfl, rfl, by omega, hst, Below.refl _ _⟩
        case round =>
          obtain ⟨j, v, rfl, rfl, hj, hown, hbr⟩ := hrel
          have hszr := hbr.size
          obtain ⟨gv, cv2, _, hvv, hcv2, _⟩ := ownI_cells hown.out (by rw [fnL_len]; exact hn1)
          rw [fnL_len] at hvv hcv2
          subst hvv
          by_cases hlt : j < m
          · have b2 : (j : Int) < (m : Int) := by omega
            have hz1 : (itL L l j).length ≤ 1000000 := by
              have := hmo.out j (m - j)
              rw [show j + (m - j) = m by omega] at this
              have := HB.out; omega
            have hz2 : (itL L l (j + 1)).length ≤ 1000000 := by
              have := hmo.out (j + 1) (m - (j + 1))
              rw [show j + 1 + (m - (j + 1)) = m by omega] at this
              have := HB.out; omega
            have hcnow : Hid (∀ a, a < n → wr.cell? ⟨gv, a, none⟩ = some (.int .i64 ((ctL (itL L l j) a : Nat) : Int))) := fun a ha => (fn_cell ha hown.out).1
            obtain ⟨T, hT⟩ : ∃ T : Nat → Nat, T = fun i => ctL (itL L l (j + 1)) i := ⟨_, rfl⟩
            obtain ⟨Z, hZ⟩ : ∃ Z : Nat → Nat, Z = fun a => ctL (itL L l j) a := ⟨_, rfl⟩
            have hTS : Hid (∀ i, T i = sumTo (fun q => mtL L i q * Z q) n) := fun i => by
              rw [hT, hZ]; show ctL (apL L (itL L l j)) i = _
              rw [hcap.out i j, HN.out]
            have hZb : Hid (∀ a, Z a ≤ 1000000) := fun a => by rw [hZ]; exact Nat.le_trans (ctL_le _ _) hz1
            have hTb : Hid (∀ a, T a ≤ 1000000) := fun a => by rw [hT]; exact Nat.le_trans (ctL_le _ _) hz2
            have hcn2 : Hid (∀ W, Below wr.heap.size wr W → ∀ a, a < n → W.cell? ⟨gv, a, none⟩ = some (.int .i64 ((Z a : Nat) : Int))) := fun W hW a ha => by
              have := hcnow.out a ha
              rw [hW.cell (p := ⟨gv, a, none⟩) (World.block_lt_of_cell? wr _ this), hZ]; exact this
            have HTe : Hid (fnL n (fun a => ((T a : Nat) : Int)) = fnL n (fun a => ((ctL (itL L l (j + 1)) a : Nat) : Int))) := by rw [hT]; rfl
            clear hT hZ hz1 hz2 hcnow hown
            obtain ⟨wo, rfl⟩ : ∃ wo : World, wo = wr := ⟨_, rfl⟩
            go_wp2_with (at_make; refine wpList_make_full _ rfl _ _ _ rfl wo.heap.size 3 i0 _ 1 Try.underlying24 INFO.out HZ.out HI1.out .i64 .i64 _ _ n rfl rfl rfl rfl (by rw [HI2.out]; omega) (by unfold maxLen; omega) (Nat.le_refl _) ?_; intro wn hown1 hg1)
            have hnx := Lib.hid (fn_made hown1)
            have hBn : Below wo.heap.size wo wn := (Below.refl _ _).grown hg1 (Nat.le_refl _) (fun k hk => (by cases hk))
            have HBN := Lib.hid hBn
            have hst3 : Hid (OwnI wn wo.heap.size (.slice (some ⟨wo.heap.size, 0, none⟩) n n) (fnL n (phF (fun a => ((T a : Nat) : Int)) 0 0))) := by unfold Hid; rw [← phF_zero]; exact hnx.out
            clear hown1 hg1 hnx hBn
            go_loopw [56] (fun z w3 => ∃ i : Nat, z = .int .i64 (i : Int) ∧ i ≤ n ∧ Hid (OwnI w3 wo.heap.size (.slice (some ⟨wo.heap.size, 0, none⟩) n n) (fnL n (phF (fun a => ((T a : Nat) : Int)) i 0))) ∧ Below wo.heap.size wo w3) (fun z _ => n - (intOf z).toNat)
            case atStart => exact ⟨0, rfl, by omega, hst3, HBN.out⟩
            case round =>
              obtain ⟨i, rfl, hi, hown3, hb3⟩ := hrel
              by_cases hlt3 : i < n
              · have b3 : (i : Int) < (n : Int) := by omega
                obtain ⟨g, gi, ci, rfl, e2, e3, e4, e5⟩ := HX.out wr (hbr.trans (hb3.mono hszr)) i hlt3
                have HE5 : Hid (∀ W, Below wo.heap.size wo W → ∀ q, q < n → W.cell? ⟨gi, q, none⟩ = some (.int .i64 ((mtL L i q : Nat) : Int))) := fun W hW q hq => by
                  obtain ⟨g', gi', ci', a1, a2, a3, a4, a5⟩ := HX.out W (hbr.trans (hW.mono hszr)) i hlt3
                  obtain ⟨g'', gi'', ci'', d1, d2, d3, d4, d5⟩ := HX.out wo hbr i hlt3
                  have x1 := hW.cell (p := ⟨g', i, none⟩) (World.block_lt_of_cell? wo _ (by cases d1; cases a1; exact d3))
                  have x2 := hb3.cell (p := ⟨g, i, none⟩) (World.block_lt_of_cell? wo _ (by cases d1; exact d3))
                  cases a1
                  cases d1
                  rw [a3, d3] at x1
                  rw [e3, d3] at x2
                  cases x1
                  cases x2
                  exact a5 q hq
                have hst4 : Hid (OwnI wr wo.heap.size (.slice (some ⟨wo.heap.size, 0, none⟩) n n) (fnL n (phF (fun a => ((T a : Nat) : Int)) i ((sumTo (fun q => mtL L i q * Z q) 0 : Nat) : Int)))) := hown3
                have HB3 := Lib.hid hb3
                clear e5 hown3
                go_wp2_with fail
                go_loopw [63] (fun z w4 => ∃ k : Nat, z = .int .i64 (k : Int) ∧ k ≤ n ∧ Hid (OwnI w4 wo.heap.size (.slice (some ⟨wo.heap.size, 0, none⟩) n n) (fnL n (phF (fun a => ((T a : Nat) : Int)) i ((sumTo (fun q => mtL L i q * Z q) k : Nat) : Int)))) ∧ Below wo.heap.size wo w4) (fun z _ => n - (intOf z).toNat)
                case atStart => exact ⟨0, rfl, by omega, hst4, HB3.out⟩
                case round =>
                  obtain ⟨k, rfl, hk, hown4, hb4⟩ := hrel
                  by_cases hlt4 : k < n
                  · have b4 : (k : Int) < (n : Int) := by omega
                    have r1 := HE5.out wr hb4 k hlt4
                    have r2 := hcn2.out wr hb4 k hlt4
                    obtain ⟨r3, r4⟩ := fn_cell hlt3 hown4.out
                    rw [phF_at] at r3
                    have y1 := hml.out i k hlt4
                    have y2 := hZb.out k
                    obtain ⟨t1, ht1⟩ : ∃ t1, t1 = mtL L i k := ⟨_, rfl⟩
                    obtain ⟨t2, ht2⟩ : ∃ t2, t2 = Z k := ⟨_, rfl⟩
                    have hmul : t1 * t2 ≤ 8000000 := by rw [ht1, ht2]; exact Nat.le_trans (Nat.mul_le_mul y1 y2) (by decide)
                    obtain ⟨t3, ht3⟩ : ∃ t3, t3 = t1 * t2 := ⟨_, rfl⟩
                    obtain ⟨sk, hsk⟩ : ∃ sk, sk = sumTo (fun q => mtL L i q * Z q) k := ⟨_, rfl⟩
                    have hskb : sk ≤ 1000000 := by
                      have h1 := sumTo_mono (fun q => mtL L i q * Z q) (k := k) (m := n) (by omega)
                      have h2 := hTb.out i
                      rw [hTS.out i] at h2
                      omega
                    have hnxt : Hid (sk + t3 = sumTo (fun q => mtL L i q * Z q) (k + 1)) := by unfold Hid; rw [ht3, ht1, ht2, hsk]; rfl
                    rw [← ht1] at r1
                    rw [← ht2] at r2
                    rw [← hsk] at r3
                    rw [← ht3] at hmul
                    have m1 : (t1 : Int) * (t2 : Int) = (t3 : Int) := by rw [ht3]; exact (Int.natCast_mul _ _).symm
                    have m2 : IntKind.i64.wrap (t3 : Int) = (t3 : Int) := IntWalk.i64_in _ (by omega)
                    have m3 : IntKind.i64.wrap ((sk : Int) + (t3 : Int)) = (sk : Int) + (t3 : Int) := IntWalk.i64_in _ (by omega)
                    have hup := Lib.hid (fn_stored i ((sk : Int) + (t3 : Int)) hown4.out)
                    have HB4 := Lib.hid hb4
                    obtain ⟨bn, hbn⟩ : ∃ bn, bn = wo.heap.size := ⟨_, rfl⟩
                    have HBNN := Lib.hid hbn
                    rw [← hbn] at r3 r4 hup ⊢
                    clear y1 y2 ht1 ht2 ht3 hsk hown4 hb4 hbn
                    go_upto_region 19 with fail
                    go_still_tail 11, (by kernel_rfl)
                    change wpList _ _ _ _ _ wr.drew
                    have r3d : wr.drew.cell? ⟨bn, i, none⟩ = some (.int .i64 (sk : Int)) := r3
                    have r4d : wr.drew.frozen? ⟨bn, i, none⟩ = false := r4
                    have hupd : Hid (OwnI (wr.drew.setCell ⟨bn, i, none⟩ (.int .i64 ((sk : Int) + (t3 : Int)))) bn (.slice (some ⟨bn, 0, none⟩) n n) (fnL n (phF (fun a => ((T a : Nat) : Int)) i ((sumTo (fun q => mtL L i q * Z q) (k + 1) : Nat) : Int)))) := by
                      have h1 := hup.out.1
                      rw [phF_set] at h1
                      rw [← hnxt.out]
                      rw [show ((sk + t3 : Nat) : Int) = (sk : Int) + (t3 : Int) by omega]
                      exact h1
                    have hbdn : Hid (Below wo.heap.size wo (wr.drew.setCell ⟨bn, i, none⟩ (.int .i64 ((sk : Int) + (t3 : Int))))) := (show Below wo.heap.size wo wr.drew from below_drewN HB4.out 1).setCell (p := ⟨bn, i, none⟩) (by show wo.heap.size ≤ bn; rw [HBNN.out]; exact Nat.le_refl _) _
                    obtain ⟨wd, hwd⟩ : ∃ wd, wd = wr.drew := ⟨_, rfl⟩
                    rw [← hwd] at r3d r4d hupd hbdn ⊢
                    clear hwd r1 r2 r3 r4 hup
                    go_wp2_with fail
                    go_roundw
                    case rel => exact ⟨k + 1, by go_num, by omega, hupd, by have := hbdn.out; rw [← HBNN.out] at this; exact this⟩
                    case measure => simp [intOf] <;> omega
                  · obtain rfl : n = k := by omega
                    have b4 : decide ((n : Int) < (n : Int)) = false := decide_eq_false (by omega)
                    have hdone : Hid (OwnI wr wo.heap.size (.slice (some ⟨wo.heap.size, 0, none⟩) n n) (fnL n (phF (fun a => ((T a : Nat) : Int)) (i + 1) 0))) := by
                      have h1 := hown4.out
                      rw [← hTS.out i, show ((T i : Nat) : Int) = (fun a => ((T a : Nat) : Int)) i from rfl, phF_next] at h1
                      exact h1
                    obtain ⟨r3, r4⟩ := fn_cell hlt3 hown4.out
                    rw [phF_at, ← hTS.out i] at r3
                    have y1 := hTb.out i
                    obtain ⟨ti, hti⟩ : ∃ ti, ti = T i := ⟨_, rfl⟩
                    rw [← hti] at r3 y1
                    have b5 : decide ((1000000000000 : Int) < (ti : Int)) = false := decide_eq_false (by omega)
                    have HB4 := Lib.hid hb4
                    clear hti hown4 hb4 r4
                    go_wp2_with fail
                    go_roundw
                    case rel => exact ⟨i + 1, by go_num, by omega, hdone, HB4.out⟩
                    case measure => simp [intOf] <;> omega
              · obtain rfl : n = i := by omega
                have b3 : decide ((n : Int) < (n : Int)) = false := decide_eq_false (by omega)
                have hfin : Hid (OwnI wr wo.heap.size (.slice (some ⟨wo.heap.size, 0, none⟩) n n) (fnL n (fun a => ((ctL (itL L l (j + 1)) a : Nat) : Int)))) := by
                  have h1 := hown3.out
                  rw [phF_end, HTe.out] at h1
                  exact h1
                have hfin2 : Hid (OwnI wr wa.heap.size (.slice (some ⟨wo.heap.size, 0, none⟩) n n) (fnL n (fun a => ((ctL (itL L l (j + 1)) a : Nat) : Int)))) := own_base hfin.out (by omega)
                have HB3 := Lib.hid (hbr.trans (hb3.mono hszr))
                clear hown3 hb3 hfin
                go_wp2_with fail
                go_roundw
                case rel => exact ⟨j + 1, _, rfl, by go_num, by omega, hfin2, HB3.out⟩
                case measure => simp [intOf] <;> omega
          · obtain rfl : m = j := by omega
            have b2 : decide ((m : Int) < (m : Int)) = false := decide_eq_false (by omega)
            have hfin : Hid (OwnI wr w.heap.size (.slice (some ⟨gv, 0, none⟩) n cv2) (fnL n (fun a => ((ctL (itL L l m) a : Nat) : Int)))) := own_base hown.out (by omega)
            have HBR := Lib.hid (HBC.out.trans (hbr.mono (by omega)))
            clear hown hbr
            go_wp2_with fail
            go_ret2
            exact ⟨_, rfl, hfin.out, HBR.out⟩
end Go.Proofs.Ytlmciomoimfajaa
