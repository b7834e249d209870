/- The walk of the law FnFactors: it returns true. Conditions: the code's bytes can be read; the library's variable MaxLen holds a number. -/
import Derived.Test.YtlmciomoimfajaaV8
import Derived.Test.YtlmciomoimfajaaL1
import Derived.Test.YtlmciomoimfajaaL6
import Derived.Test.YtlmciomoimfajaaY3
import Derived.Test.YtlmciomoimfajaaY4
import Derived.Deep.Cut
import Derived.Deep.CutRange
namespace Go.Proofs.Ytlmciomoimfajaa
open Go.RowKit
set_option linter.unusedVariables false

theorem word_infY {s x : ByteArray} (hw : wordL s.data.toList = true) (h : x.data.toList <:+: s.data.toList) : wordL x.data.toList = true :=
  wordL_mk (fun c hc => wordL_all hw c (h.subset hc)) (Nat.le_trans h.length_le (wordL_len hw))
theorem rev_wordY {s : ByteArray} (hw : wordL s.data.toList = true) : wordL (rev s).data.toList = true := rev_wordR hw
theorem grW_len (s : ByteArray) (n : Nat) : (grW s n).length = (facW s (n + 1)).length := by unfold grW; rw [List.length_map]
/-- what an edge of the graph holds -/
theorem grW_get {s : ByteArray} {n k : Nat} {y : ByteArray} (h : (facW s (n + 1))[k]? = some y) : ∃ a b : Nat, (grW s n)[k]? = some ((a : Int), (b : Int)) ∧ a < (facW s n).length ∧ b < (facW s n).length ∧ (facW s n)[a]? = some (y.extract 0 n) ∧ (facW s n)[b]? = some (y.extract 1 y.size) := by
  have hm := List.mem_of_getElem? h
  obtain ⟨h1, h2⟩ := fac_init hm
  have e1 := srIx_at (facW_asc s n) h1
  have e2 := srIx_at (facW_asc s n) h2
  refine ⟨_, _, ?_, (List.getElem?_eq_some_iff.1 e1).1, (List.getElem?_eq_some_iff.1 e2).1, e1, e2⟩
  unfold grW
  rw [List.getElem?_map, h]; rfl
theorem ownR_read {w : World} {B : Nat} {v : Value} {ps : List (Int × Int)} (h : OwnR w B v ps) : ∃ ga cc, v = .slice ga ps.length cc ∧ ∀ (i : Nat) p, ps[i]? = some p → ∃ g gi, ga = some ⟨g, 0, none⟩ ∧ ps.length ≤ cc ∧ w.cell? ⟨g, i, none⟩ = some (.slice (some ⟨gi, 0, none⟩) 2 2) ∧ w.cell? ⟨gi, 0, none⟩ = some (.int .i64 p.1) ∧ w.cell? ⟨gi, 1, none⟩ = some (.int .i64 p.2) := ownR_shape h
theorem fsum_bd (s : ByteArray) (b : Bool) (L : List ByteArray) (k : Nat) : sumN (fun f => (nbW s f b).size) (L.take k) ≤ 4 * L.length := by
  have h1 := sumN_le (F := fun f => (nbW s f b).size) (m := 4) (fun f => by rw [nbW_size]; exact nbL_len _ _ _) (L.take k)
  have h2 : (L.take k).length ≤ L.length := by rw [List.length_take]; omega
  have h3 := Nat.mul_le_mul_left 4 h2
  omega

set_option maxRecDepth 100000 in
set_option maxHeartbeats 20000000 in
theorem lawFactors_w (a0 : Option Addr) (len0 cap0 : Nat) (z0 : List Int) (w : World) (w0 : IsRow .u8 w a0 len0 cap0 z0) {mx : Int} (hm : w.cell? ⟨0, 0, none⟩ = some (.int .i64 mx)) :
    Calls Try.prog 7 #[.slice a0 len0 cap0] w fun e w' => e = .returned (.bool true) ∧ Below w.heap.size w w' := by
  by_cases hbig : 1048576 < len0
  · have hd : decide ((1048576 : Int) < (len0 : Int)) = true := decide_eq_true (by omega)
    go_enter Try.func7, Try.ntmps7
    go_wp2
    go_ret
    exact ⟨rfl, Below.refl _ _⟩
  · have hd : decide ((1048576 : Int) < (len0 : Int)) = false := decide_eq_false (by omega)
    have hlen : len0 ≤ 1048576 := by omega
    have hmb := World.block_lt_of_cell? w _ hm
    have HM := Lib.hid (fun W (hb : Below w.heap.size w W) => show W.cell? ⟨0, 0, none⟩ = some (.int .i64 mx) by rw [hb.cell (p := ⟨0, 0, none⟩) hmb]; exact hm)
    have HR := Lib.hid (fun W (hb : Below w.heap.size w W) => w0.keep hb)
    have c1 := Lib.hid (makeWord_c a0 len0 cap0 z0 0 20 w w0 hlen (by omega) (by omega))
    clear hm w0 hbig hmb
    go_enter Try.func7, Try.ntmps7
    go_wp2_with fail
    refine c1.out.mono ?_
    rintro e w1 ⟨s, rfl, hs, hlet, hb1⟩
    have HB1 := Lib.hid hb1
    have HS := Lib.hid (letL_word hlet (by omega) (by rw [← size_len]; omega))
    have HSA := Lib.hid (wordL_all HS.out)
    have HSH := Lib.hid (short_of HS.out (by omega))
    have c2 := Lib.hid (makeSize_c a0 len0 cap0 z0 30 1 4 w1 (HR.out w1 hb1) hlen (by omega) (by omega) (by omega) (by omega))
    clear c1 hlet hb1
    go_wp2_with fail
    refine c2.out.mono ?_
    rintro e w2 ⟨kk, rfl, hk1, hk2, hb2⟩
    obtain ⟨n, rfl⟩ : ∃ n : Nat, kk = (n : Int) := ⟨kk.toNat, by omega⟩
    have hn1 : 1 ≤ n := by omega
    have hn4 : n ≤ 4 := by omega
    have HB2 := Lib.hid (HB1.out.trans (hb2.mono HB1.out.size))
    have c3 := Lib.hid (FactorsOf_i s n w2 HS.out hn1 (by omega))
    obtain ⟨L, hL⟩ : ∃ L, L = facW s n := ⟨_, rfl⟩
    rw [← hL] at c3
    have HLe := Lib.hid hL
    clear c2 hb2 HB1 hk1 hk2 hL
    go_wp2_with fail
    refine c3.out.mono ?_
    rintro e w3 ⟨vL, rfl, oL, bL⟩
    have HB3 := Lib.hid (HB2.out.trans (bL.mono HB2.out.size))
    have RL := Lib.hid oL.rd
    obtain ⟨gl, cl, rfl, _⟩ := rdS_shape oL.rd
    obtain ⟨NL, hNL⟩ : ∃ NL, NL = L.length := ⟨_, rfl⟩
    have HNL := Lib.hid hNL
    have RL : Hid (RdS w3 (.slice gl NL cl) L) := by unfold Hid; rw [hNL]; exact RL.out
    have hNLb : NL ≤ 21 := by have := facW_len s n; rw [← HLe.out, ← hNL] at this; omega
    obtain ⟨n1, hn1e⟩ : ∃ n1, n1 = n + 1 := ⟨_, rfl⟩
    have c4 := Lib.hid (FactorsOf_i s n1 w3 HS.out (by omega) (by omega))
    obtain ⟨M, hM⟩ : ∃ M, M = facW s n1 := ⟨_, rfl⟩
    rw [← hM] at c4
    have HMe : Hid (M = facW s (n + 1)) := by unfold Hid; rw [hM, hn1e]
    have en1 : (n : Int) + 1 = (n1 : Int) := by omega
    have en2 : IntKind.i64.wrap (n1 : Int) = (n1 : Int) := IntWalk.i64_in _ (by omega)
    rw [← hNL]
    clear c3 oL bL HB2 hNL hM hn1e
    go_wp2_with fail
    refine c4.out.mono ?_
    rintro e w4 ⟨vM, rfl, oM, bM⟩
    have HB4 := Lib.hid (HB3.out.trans (bM.mono HB3.out.size))
    have RL4 := Lib.hid (RL.out.below bM)
    have RM := Lib.hid oM.rd
    obtain ⟨gm, cm, rfl, _⟩ := rdS_shape oM.rd
    obtain ⟨NM, hNM⟩ : ∃ NM, NM = M.length := ⟨_, rfl⟩
    have HNM := Lib.hid hNM
    have RM : Hid (RdS w4 (.slice gm NM cm) M) := by unfold Hid; rw [hNM]; exact RM.out
    have hNMb : NM ≤ 21 := by have := facW_len s (n + 1); rw [← HMe.out, ← hNM] at this; omega
    have c5 := Lib.hid (graphOf_i s n w4 HS.out hn1 (by omega))
    obtain ⟨G, hG⟩ : ∃ G, G = grW s n := ⟨_, rfl⟩
    rw [← hG] at c5
    have HGe := Lib.hid hG
    have hGl : G.length = NM := by rw [hG, grW_len, ← HMe.out, hNM]
    rw [← hNM]
    clear c4 oM bM HB3 RL hNM hG
    go_wp2_with fail
    refine c5.out.mono ?_
    rintro e w5 ⟨vG, rfl, oG, bG⟩
    have HB5 := Lib.hid (HB4.out.trans (bG.mono HB4.out.size))
    have RL5 := Lib.hid (RL4.out.below bG)
    have RM5 := Lib.hid (RM.out.below bG)
    obtain ⟨gg, cg, rfl, hgc⟩ := ownR_read oG
    have HGC : Hid (∀ W, Below w5.heap.size w5 W → ∀ (i : Nat) p, G[i]? = some p → ∃ g gi, gg = some ⟨g, 0, none⟩ ∧ NM ≤ cg ∧ W.cell? ⟨g, i, none⟩ = some (.slice (some ⟨gi, 0, none⟩) 2 2) ∧ W.cell? ⟨gi, 0, none⟩ = some (.int .i64 p.1) ∧ W.cell? ⟨gi, 1, none⟩ = some (.int .i64 p.2)) := fun W hW i p hp => by
      obtain ⟨g, gi, h1, h2, h3, h4, h5⟩ := hgc i p hp
      refine ⟨g, gi, h1, by rw [← hGl]; exact h2, ?_, ?_, ?_⟩
      · rw [hW.cell (p := ⟨g, i, none⟩) (World.block_lt_of_cell? w5 _ h3)]; exact h3
      · rw [hW.cell (p := ⟨gi, 0, none⟩) (World.block_lt_of_cell? w5 _ h4)]; exact h4
      · rw [hW.cell (p := ⟨gi, 1, none⟩) (World.block_lt_of_cell? w5 _ h5)]; exact h5
    rw [hGl]
    have HGL := Lib.hid hGl
    clear c5 oG bG HB4 RL4 RM hgc hGl
    go_upto_region 8 with fail
    go_cut [77] from 39 to 77 (fun s77 wx => s77 = .bool false ∧ Below w5.heap.size w5 wx)
    case first =>
      have hri := Lib.hid (rising_c (.slice gl NL cl) L w5 RL5.out (by rw [← HNL.out]; omega) (by rw [HLe.out]; exact facW_asc s n))
      have hco := Lib.hid (fun W => complexityOf_i s n W HS.out hn1 (by omega))
      rw [← HLe.out, ← HNL.out] at hco
      have hfl := Lib.hid (fun W => flip_c s W (by omega))
      have hcr := Lib.hid (fun W => complexityOf_i (rev s) n W (rev_wordY HS.out) hn1 (by omega))
      rw [fac_rev, ← HLe.out, ← HNL.out] at hcr
      have q1 : ((NL : Int) != (NL : Int)) = false := by simp
      have q2 : ((NM : Int) != (NM : Int)) = false := by simp
      have q3 : n ≤ s.size → 1 ≤ NL := fun h => by rw [HNL.out, HLe.out]; exact fac_some h
      have Q3 := Lib.hid q3
      clear q3
      have go : ∀ (q5 : Bool), decide ((n : Int) ≤ (s.size : Int)) = q5 → (q5 = true → ((NL : Int) == 0) = false) → True := fun _ _ _ => trivial
      clear go
      by_cases hle : n ≤ s.size
      · have q4 : decide ((n : Int) ≤ (s.size : Int)) = true := decide_eq_true (by omega)
        have q5 : ((NL : Int) == 0) = false := beq_eq_false_iff_ne.2 (by have := Q3.out hle; omega)
        go_wp2_with fail
        refine hri.out.mono ?_
        rintro e w6 ⟨rfl, d6, rfl⟩
        have K6 := Lib.hid (below_drewN (Below.refl w5.heap.size w5) d6)
        go_wp2_with fail
        refine (hco.out _).mono ?_
        rintro e w7 ⟨rfl, b7⟩
        have K7 := Lib.hid (K6.out.trans b7)
        clear b7
        go_wp2_with fail
        refine (hco.out _).mono ?_
        rintro e w8 ⟨rfl, b8⟩
        have K8 := Lib.hid (K7.out.trans (b8.mono K7.out.size))
        clear b8
        go_wp2_with fail
        refine (hfl.out _).mono ?_
        rintro e w9 ⟨rfl, b9⟩
        have K9 := Lib.hid (K8.out.trans (b9.mono K8.out.size))
        clear b9
        go_wp2_with fail
        refine (hcr.out _).mono ?_
        rintro e w10 ⟨rfl, b10⟩
        have K10 := Lib.hid (K9.out.trans (b10.mono K9.out.size))
        clear b10
        go_wp2_with fail
        go_meet
        case rel => exact ⟨rfl, K10.out⟩
      · have q4 : decide ((n : Int) ≤ (s.size : Int)) = false := decide_eq_false (by omega)
        go_wp2_with fail
        refine hri.out.mono ?_
        rintro e w6 ⟨rfl, d6, rfl⟩
        have K6 := Lib.hid (below_drewN (Below.refl w5.heap.size w5) d6)
        go_wp2_with fail
        refine (hco.out _).mono ?_
        rintro e w7 ⟨rfl, b7⟩
        have K7 := Lib.hid (K6.out.trans b7)
        clear b7
        go_wp2_with fail
        refine (hco.out _).mono ?_
        rintro e w8 ⟨rfl, b8⟩
        have K8 := Lib.hid (K7.out.trans (b8.mono K7.out.size))
        clear b8
        go_wp2_with fail
        refine (hfl.out _).mono ?_
        rintro e w9 ⟨rfl, b9⟩
        have K9 := Lib.hid (K8.out.trans (b9.mono K8.out.size))
        clear b9
        go_wp2_with fail
        refine (hcr.out _).mono ?_
        rintro e w10 ⟨rfl, b10⟩
        have K10 := Lib.hid (K9.out.trans (b10.mono K9.out.size))
        clear b10
        go_wp2_with fail
        go_meet
        case rel => exact ⟨rfl, K10.out⟩
    case rest =>
      obtain ⟨rfl, hbc⟩ := hcut
      have HBC := Lib.hid hbc
      have HB6 := Lib.hid (HB5.out.trans (hbc.mono HB5.out.size))
      have RL6 := Lib.hid (RL5.out.below hbc)
      have RM6 := Lib.hid (RM5.out.below hbc)
      have c6 := Lib.hid (rightSpecial_i s n mx wc (HM.out wc HB6.out) HS.out hn1 (by omega))
      clear hbc HB5 RL5 RM5
      go_wp2_with fail
      refine c6.out.mono ?_
      rintro e w6 ⟨vR, rfl, oR, bR⟩
      have HBC7 := Lib.hid (HBC.out.trans (bR.mono HBC.out.size))
      have HB7 := Lib.hid (HB6.out.trans (bR.mono HB6.out.size))
      have RL7 := Lib.hid (RL6.out.below bR)
      have RM7 := Lib.hid (RM6.out.below bR)
      have RR := Lib.hid oR.rd
      have c7 := Lib.hid (leftSpecial_i s n mx w6 (HM.out w6 HB7.out) HS.out hn1 (by omega))
      obtain ⟨gr, cr, rfl, _⟩ := rdS_shape oR.rd
      clear c6 oR bR HB6 RL6 RM6 HBC
      go_wp2_with fail
      refine c7.out.mono ?_
      rintro e w7 ⟨vF, rfl, oF, bF⟩
      have HBC8 := Lib.hid (HBC7.out.trans (bF.mono HBC7.out.size))
      have HB8 := Lib.hid (HB7.out.trans (bF.mono HB7.out.size))
      have RL8 := Lib.hid (RL7.out.below bF)
      have RM8 := Lib.hid (RM7.out.below bF)
      have RR8 := Lib.hid (RR.out.below bF)
      have RF8 := Lib.hid oF.rd
      obtain ⟨gf, cf, rfl, _⟩ := rdS_shape oF.rd
      have hSb := fun b k => fsum_bd s b L k
      have hST := Lib.hid (fun b k x => @sumN_take (fun f => (nbW s f b).size) L k x)
      have hSum := Lib.hid (fun b => show sumN (fun f => (nbW s f b).size) L = NM by rw [HLe.out, HNM.out, HMe.out]; exact nb_sum HSA.out n b)
      have hSp := Lib.hid (fun b f (hf : f ∈ L) => show memB (spW s n b) f = spP s b f from spW_mem (by rw [← HLe.out]; exact hf))
      have hfi := Lib.hid (fun f (hf : f ∈ L) => (fac_inf.1 (by rw [← HLe.out]; exact hf) : f.size = n ∧ f.data.toList <:+: s.data.toList))
      have hS0 : Hid (0 = sumN (fun f => (nbW s f true).size) (L.take 0)) := rfl
      have hS1 : Hid (0 = sumN (fun f => (nbW s f false).size) (L.take 0)) := rfl
      have HSb := Lib.hid hSb
      have hRl := spW_len s n true
      have hFl := spW_len s n false
      obtain ⟨R, hR⟩ : ∃ R, R = spW s n true := ⟨_, rfl⟩
      obtain ⟨F, hF⟩ : ∃ F, F = spW s n false := ⟨_, rfl⟩
      have HRe := Lib.hid hR
      have HFe := Lib.hid hF
      rw [← hR] at hRl RR8 ⊢
      rw [← hF] at hFl RF8 ⊢
      clear c7 oF bF HB7 RL7 RM7 RR HBC7 hSb hR hF
      go_wp2_with fail
      go_loopw [8, 9, 86] (fun y1 y2 z wr => ∃ k a b : Nat, z = .int .i64 (k : Int) ∧ k ≤ NL ∧ y1 = .int .i64 (a : Int) ∧ y2 = .int .i64 (b : Int) ∧ Hid (a = sumN (fun f => (nbW s f true).size) (L.take k)) ∧ Hid (b = sumN (fun f => (nbW s f false).size) (L.take k)) ∧ Below w7.heap.size w7 wr) (fun _ _ z _ => NL - (intOf z).toNat)
      case atStart => exact ⟨0, 0, 0, rfl, by omega, rfl, rfl, hS0, hS1, Below.refl _ _⟩
      case round =>
        obtain ⟨k, a, b, rfl, hk, rfl, rfl, ha, hb, hbr⟩ := hrel
        by_cases hlk : k < NL
        · obtain ⟨x, hx⟩ : ∃ x, L[k]? = some x := ⟨_, List.getElem?_eq_getElem (by rw [← HNL.out]; exact hlk)⟩
          obtain ⟨g, rfl, hca, hcell⟩ := rdS_cell (RL8.out.below hbr) hx
          have cx := hcell k x hx
          have hxm := List.mem_of_getElem? hx
          obtain ⟨hxz, hxi⟩ := hfi.out x hxm
          have hxw := word_infY HS.out hxi
          have HBr := Lib.hid (HB8.out.trans (hbr.mono HB8.out.size))
          have hf1 := Lib.hid (followersOf_i s x mx wr (HM.out wr HBr.out) HS.out hxw)
          have hf2 := Lib.hid (leadersOf_i s x mx wr (HM.out wr HBr.out) HS.out hxw)
          have hf3 := Lib.hid (isFactor_i s x mx wr (HM.out wr HBr.out) HS.out hxw)
          rw [contains_inf hxi] at hf3
          have hi1 := Lib.hid (inb_c (.slice gr R.length cr) R x wr (RR8.out.below hbr) (by omega))
          have hi2 := Lib.hid (inb_c (.slice gf F.length cf) F x wr (RF8.out.below hbr) (by omega))
          rw [HRe.out, hSp.out true x hxm, ← HRe.out] at hi1
          rw [HFe.out, hSp.out false x hxm, ← HFe.out] at hi2
          have hsa := hST.out true k x hx
          have hsb := hST.out false k x hx
          have hba := HSb.out true k
          have hbb := HSb.out false k
          rw [← ha.out, ← HNL.out] at hba
          rw [← hb.out, ← HNL.out] at hbb
          have hza := nbW_size s x true
          have hzb := nbW_size s x false
          have hla := nbL_len s.data.toList x.data.toList true
          have hlb := nbL_len s.data.toList x.data.toList false
          have hpa : spP s true x = decide (1 < (nbW s x true).size) := rfl
          have hpb : spP s false x = decide (1 < (nbW s x false).size) := rfl
          rw [hpa] at hi1
          rw [hpb] at hi2
          obtain ⟨A, hA⟩ : ∃ A, A = nbW s x true := ⟨_, rfl⟩
          obtain ⟨B, hB⟩ : ∃ B, B = nbW s x false := ⟨_, rfl⟩
          rw [← hA] at hf1 hi1 hza
          rw [← hB] at hf2 hi2 hzb
          have hAz : A.size ≤ 4 := by omega
          have hBz : B.size ≤ 4 := by omega
          have hsa' : Hid (a + A.size = sumN (fun f => (nbW s f true).size) (L.take (k + 1))) := by unfold Hid; rw [hsa, ← ha.out, hA]
          have hsb' : Hid (b + B.size = sumN (fun f => (nbW s f false).size) (L.take (k + 1))) := by unfold Hid; rw [hsb, ← hb.out, hB]
          have d1 : ((x.size : Int) != (n : Int)) = false := by rw [hxz]; simp
          have b1 : (k : Int) < (NL : Int) := by omega
          have HXZ := Lib.hid hxz
          clear hcell hx hxm hxi hxw hsa hsb hza hzb hla hlb hpa hpb hA hB hxz
          have d2 : decide ((1 : Int) < (A.size : Int)) = decide (1 < A.size) := by rw [decide_eq_decide]; omega
          have d3 : decide ((1 : Int) < (B.size : Int)) = decide (1 < B.size) := by rw [decide_eq_decide]; omega
          obtain ⟨qa, hqa⟩ : ∃ qa, qa = decide (1 < A.size) := ⟨_, rfl⟩
          obtain ⟨qb, hqb⟩ : ∃ qb, qb = decide (1 < B.size) := ⟨_, rfl⟩
          rw [← hqa] at hi1 d2
          rw [← hqb] at hi2 d3
          have d4 : (qa != qa) = false := by simp
          have d5 : (qb != qb) = false := by simp
          clear hqa hqb
          go_wp2_with fail
          refine hf1.out.mono ?_
          rintro e w' ⟨rfl, rfl⟩
          go_wp2_with fail
          refine hf2.out.mono ?_
          rintro e w' ⟨rfl, rfl⟩
          go_wp2_with fail
          refine hf3.out.mono ?_
          rintro e w' ⟨rfl, rfl⟩
          go_wp2_with fail
          refine hi1.out.mono ?_
          rintro e w' ⟨rfl, rfl⟩
          go_wp2_with fail
          refine hi2.out.mono ?_
          rintro e w' ⟨rfl, rfl⟩
          go_wp2_with fail
          go_roundw
          case rel => exact ⟨k + 1, a + A.size, b + B.size, by go_num, by omega, by go_num, by go_num, hsa', hsb', hbr⟩
          case measure => simp [intOf] <;> omega
        · obtain rfl : NL = k := by omega
          have haN : a = NM := by rw [ha.out, List.take_of_length_le (by rw [← HNL.out]; exact Nat.le_refl _)]; exact hSum.out true
          have hbN : b = NM := by rw [hb.out, List.take_of_length_le (by rw [← HNL.out]; exact Nat.le_refl _)]; exact hSum.out false
          rw [haN, hbN]
          have b1 : decide ((NL : Int) < (NL : Int)) = false := decide_eq_false (by omega)
          have q2 : ((NM : Int) != (NM : Int)) = false := by simp
          have HB9 := Lib.hid (HB8.out.trans (hbr.mono HB8.out.size))
          have HBC9 := Lib.hid (HBC8.out.trans (hbr.mono HBC8.out.size))
          have RL9 := Lib.hid (RL8.out.below hbr)
          have RM9 := Lib.hid (RM8.out.below hbr)
          clear ha hb haN hbN hbr HB8 RL8 RM8 RR8 RF8 HBC8 hST hSum hSp hfi HSb hS0 hS1
          obtain ⟨w9, hw9⟩ : ∃ w9 : World, w9 = wr := ⟨_, rfl⟩
          rw [← hw9] at HB9 HBC9 RL9 RM9 ⊢
          clear hw9
          go_wp2_with fail
          go_loopw [145] (fun z wr => ∃ i d : Nat, z = .int .i64 (i : Int) ∧ i ≤ NM ∧ wr = w9.drewN d) (fun z _ => NM - (intOf z).toNat)
          case atStart => exact ⟨0, 0, rfl, by omega, rfl⟩
          case round =>
            obtain ⟨i, d, rfl, hi, rfl⟩ := hrel
            by_cases hli : i < NM
            · obtain ⟨y, hy⟩ : ∃ y, M[i]? = some y := ⟨_, List.getElem?_eq_getElem (by rw [← HNM.out]; exact hli)⟩
              obtain ⟨p, q, hpq, hp, hq, hcp, hcq⟩ := grW_get (by rw [← HMe.out]; exact hy)
              rw [← HLe.out, ← HNL.out] at hp hq
              rw [← HLe.out] at hcp hcq
              rw [← HGe.out] at hpq
              obtain ⟨g, gi, rfl, hcg, cg0, cg1, cg2⟩ := HGC.out _ HBC9.out i _ hpq
              obtain ⟨g3, rfl, hcl, hcellL⟩ := rdS_cell RL9.out hcp
              obtain ⟨g4, rfl, hcm, hcellM⟩ := rdS_cell RM9.out hy
              have cL1 := hcellL p _ hcp
              have cL2 := hcellL q _ hcq
              have cM := hcellM i y hy
              have hyz : y.size = n1 := by
                have := (fac_inf.1 (by rw [← HMe.out]; exact List.mem_of_getElem? hy)).1
                omega
              obtain ⟨wo, hwo⟩ : ∃ wo, wo = w9.drewN d := ⟨_, rfl⟩
              have k1 : wo.cell? ⟨g, i, none⟩ = some (.slice (some ⟨gi, 0, none⟩) 2 2) := by rw [hwo]; exact cg0
              have k2 : wo.cell? ⟨gi, 0, none⟩ = some (.int .i64 (p : Int)) := by rw [hwo]; exact cg1
              have k3 : wo.cell? ⟨gi, 1, none⟩ = some (.int .i64 (q : Int)) := by rw [hwo]; exact cg2
              have k4 : wo.cell? ⟨g3, p, none⟩ = some (.string (y.extract 0 n)) := by rw [hwo]; exact cL1
              have k5 : wo.cell? ⟨g3, q, none⟩ = some (.string (y.extract 1 y.size)) := by rw [hwo]; exact cL2
              have k6 : wo.cell? ⟨g4, i, none⟩ = some (.string y) := by rw [hwo]; exact cM
              have HWO := Lib.hid hwo
              have j1 : (i : Int) < (NM : Int) := by omega
              have j2 : decide ((p : Int) < 0) = false := decide_eq_false (by omega)
              have j3 : decide ((q : Int) < 0) = false := decide_eq_false (by omega)
              have j4 : decide (NL ≤ p) = false := decide_eq_false (by omega)
              have j5 : decide (NL ≤ q) = false := decide_eq_false (by omega)
              have j6 : (p : Int) < (NL : Int) := by omega
              have j7 : (q : Int) < (NL : Int) := by omega
              have j8 : (n : Int) ≤ (y.size : Int) := by omega
              have j9 : (1 : Int) ≤ (y.size : Int) := by omega
              have j10 : decide ((NL : Int) ≤ (p : Int)) = false := decide_eq_false (by omega)
              have j11 : decide ((NL : Int) ≤ (q : Int)) = false := decide_eq_false (by omega)
              have j12 : n ≤ y.size := by omega
              have j13 : 1 ≤ y.size := by omega
              have HYZ := Lib.hid hyz
              rw [← hwo]
              clear hcellL hcellM cg0 cg1 cg2 cL1 cL2 cM hwo hpq hcp hcq hy hyz
              go_upto_region 29 with fail
              go_cut [209] from 146 to 209 (fun s209 wx => s209 = .bool false ∧ ∃ dd, wx = wo.drewN dd)
              case first =>
                go_quiet (fail)
                go_wp2_with fail
                go_meet
                case rel => exact ⟨rfl, _, rfl⟩
              case rest =>
                obtain ⟨rfl, dd, rfl⟩ := hcut
                go_wp2_with fail
                go_roundw
                case rel => exact ⟨i + 1, d + dd, by go_num, by omega, by rw [HWO.out, World.drewN_drewN]⟩
                case measure => simp [intOf] <;> omega
            · obtain rfl : NM = i := by omega
              have b1 : decide ((NM : Int) < (NM : Int)) = false := decide_eq_false (by omega)
              have HB10 := Lib.hid (below_drewN HB9.out d)
              have c8 := Lib.hid (reachOf_i s n (w9.drewN d) HS.out hn1 (by omega))
              clear HB9 HBC9 RL9 RM9 HGC
              go_wp2_with fail
              refine c8.out.mono ?_
              rintro e w10 ⟨r, rfl, hrch, b10⟩
              have HB11 := Lib.hid (HB10.out.trans (b10.mono HB10.out.size))
              have hwin := Lib.hid (fun i (hi : i + r ≤ s.size) => met_win hrch.met hi)
              rw [← HLe.out] at hwin
              have hr0 : ((r : Int) == 0) = ((NL : Int) == 0) := by
                by_cases h0 : L = []
                · have e1 := hrch.none (by rw [← HLe.out]; exact h0)
                  have e2 : NL = 0 := by rw [HNL.out, h0]; rfl
                  rw [e1, e2]
                · have e1 := hrch.some (by rw [← HLe.out]; exact h0)
                  have e2 : 1 ≤ NL := by rw [HNL.out]; exact List.length_pos_iff.2 h0
                  rw [beq_eq_false_iff_ne.2 (by omega : (r : Int) ≠ 0), beq_eq_false_iff_ne.2 (by omega : (NL : Int) ≠ 0)]
              have hr3 := hrch.bd
              have HR0 := Lib.hid hr0
              clear c8 b10 hrch HB10 hr0
              go_wp2_with fail
              go_loopw [19] (fun z wr => ∃ i : Nat, z = .int .i64 (i : Int) ∧ i ≤ s.size + 1 ∧ Below w.heap.size w wr) (fun z _ => s.size + 2 - (intOf z).toNat)
              case atStart => exact ⟨0, rfl, by omega, HB11.out⟩
              case round =>
                obtain ⟨i, rfl, hi, hbr⟩ := hrel
                have e1 : IntKind.i64.wrap ((i : Int) + (r : Int)) = (i : Int) + (r : Int) := IntWalk.i64_in _ (by omega)
                obtain ⟨c, hc⟩ : ∃ c : Bool, c = decide (0 < r ∧ i + r ≤ s.size) := ⟨_, rfl⟩
                have HC := Lib.hid hc
                have HBr := Lib.hid hbr
                go_upto_region 34 with fail
                go_cut [223] from 214 to 236 (fun s223 wx => s223 = .bool c ∧ wx = wr)
                case first =>
                  by_cases h0 : 0 < r
                  · have j1 : decide ((0 : Int) < (r : Int)) = true := decide_eq_true (by omega)
                    by_cases hle : i + r ≤ s.size
                    · have j2 : decide ((i : Int) + (r : Int) ≤ (s.size : Int)) = true := decide_eq_true (by omega)
                      have j3 : c = true := by rw [hc]; exact decide_eq_true ⟨h0, hle⟩
                      subst j3
                      clear hc
                      go_wp2_with fail
                      go_meet
                      case rel => exact ⟨rfl, rfl⟩
                    · have j2 : decide ((i : Int) + (r : Int) ≤ (s.size : Int)) = false := decide_eq_false (by omega)
                      have j3 : c = false := by rw [hc]; exact decide_eq_false fun h => hle h.2
                      subst j3
                      clear hc
                      go_wp2_with fail
                      go_meet
                      case rel => exact ⟨rfl, rfl⟩
                  · have j1 : decide ((0 : Int) < (r : Int)) = false := decide_eq_false (by omega)
                    have j3 : c = false := by rw [hc]; exact decide_eq_false fun h => h0 h.1
                    subst j3
                    clear hc
                    go_wp2_with fail
                    go_meet
                    case rel => exact ⟨rfl, rfl⟩
                case rest =>
                  obtain ⟨rfl, hwx⟩ := hcut
                  obtain rfl : wr = wc := hwx.symm
                  clear hc
                  cases c
                  · have c9 := Lib.hid (allF_half s)
                    have c10 := Lib.hid (allF_bd s)
                    have hst : Hid (0 = allF s 0) := rfl
                    have hcc := Lib.hid (fun k W (h1 : 1 ≤ k) (h2 : k ≤ 400) => complexityOf_i s k W HS.out h1 h2)
                    have c11 := Lib.hid (fun W => allFactors_i s W HSH.out)
                    clear hwin HB11 hbr
                    go_wp2_with fail
                    go_loopw [20, 21] (fun y z wr => ∃ k a : Nat, z = .int .i64 ((k : Int) + 1) ∧ k ≤ s.size ∧ y = .int .i64 (a : Int) ∧ Hid (a = allF s k) ∧ Below w.heap.size w wr) (fun _ z _ => s.size + 2 - (intOf z).toNat)
                    case atStart => exact ⟨0, 0, rfl, by omega, rfl, hst, HBr.out⟩
                    case round =>
                      obtain ⟨k, a, rfl, hk, rfl, ha, hb⟩ := hrel
                      have hsz := hb.size
                      have hab : a ≤ 20 * 21 := by
                        have h1 := c10.out k hk
                        have h2 : k * (s.size + 1) ≤ 20 * 21 := Nat.mul_le_mul (by omega) (by omega)
                        rw [ha.out]; omega
                      by_cases hlt : k < s.size
                      · have b2 : (k : Int) + 1 ≤ (s.size : Int) := by omega
                        obtain ⟨k1, hk1⟩ : ∃ k1, k1 = k + 1 := ⟨_, rfl⟩
                        have e2 : (k : Int) + 1 = (k1 : Int) := by omega
                        have hcall := Lib.hid (hcc.out k1 wr (by omega) (by omega))
                        have hnx : Hid (a + (facW s k1).length = allF s (k + 1)) := by unfold Hid; rw [hk1, ha.out]; rfl
                        have hfl := facW_len s k1
                        obtain ⟨fl, hfe⟩ : ∃ fl, fl = (facW s k1).length := ⟨_, rfl⟩
                        rw [← hfe] at hcall hnx hfl
                        have HK1 := Lib.hid hk1
                        have hk1b : k1 ≤ s.size := by omega
                        rw [e2] at b2 ⊢
                        clear hfe hk1 e2
                        go_wp2_with fail
                        refine hcall.out.mono ?_
                        rintro e w11 ⟨rfl, b11⟩
                        have K11 := Lib.hid (hb.trans (b11.mono hsz))
                        clear b11 hcall
                        go_wp2_with fail
                        go_roundw
                        case rel => exact ⟨k + 1, a + fl, by rw [← HK1.out], by omega, by go_num, hnx, K11.out⟩
                        case measure => simp [intOf] <;> omega
                      · obtain rfl : k = s.size := by omega
                        have b2 : decide ((s.size : Int) + 1 ≤ (s.size : Int)) = false := decide_eq_false (by omega)
                        have hal := c9.out
                        rw [← ha.out] at hal
                        obtain ⟨z1, hz1⟩ : ∃ z1, z1 = s.size + 1 := ⟨_, rfl⟩
                        rw [← hz1] at hal
                        obtain ⟨Q, hQ⟩ : ∃ Q, Q = s.size * z1 := ⟨_, rfl⟩
                        have hQb : Q ≤ 20 * 21 := by rw [hQ]; exact Nat.mul_le_mul (by omega) (by omega)
                        rw [← hQ] at hal
                        obtain ⟨H, hH⟩ : ∃ H, H = Q / 2 := ⟨_, rfl⟩
                        rw [← hH] at hal
                        have m1 : (s.size : Int) + 1 = (z1 : Int) := by omega
                        have m2 : (s.size : Int) * (z1 : Int) = (Q : Int) := by rw [hQ]; exact (Int.natCast_mul _ _).symm
                        have m3 : (Q : Int).tdiv 2 = (H : Int) := by rw [hH, Int.tdiv_eq_ediv_of_nonneg (by omega)]; exact (Int.natCast_ediv _ _).symm
                        have m4 : IntKind.i64.wrap (z1 : Int) = (z1 : Int) := IntWalk.i64_in _ (by omega)
                        have m5 : IntKind.i64.wrap (Q : Int) = (Q : Int) := IntWalk.i64_in _ (by omega)
                        have m6 : IntKind.i64.wrap (H : Int) = (H : Int) := IntWalk.i64_in _ (by omega)
                        have m7 : decide ((a : Int) ≤ (H : Int)) = true := decide_eq_true (by omega)
                        have m8 : decide ((0 : Int) ≤ (r : Int)) = true := decide_eq_true (by omega)
                        have m10 : (Q : Int) / 2 = (H : Int) := by rw [hH]; exact (Int.natCast_ediv _ _).symm
                        have hcall := c11.out wr
                        rw [← ha.out] at hcall
                        have HCALL := Lib.hid hcall
                        have m9 : ((a : Int) == (a : Int)) = true := by simp
                        have m12 : decide (a ≤ H) = true := decide_eq_true hal
                        clear hz1 hQ hH hcall
                        have hq := HR0.out
                        obtain ⟨q1, hq1⟩ : ∃ q1, q1 = ((NL : Int) == 0) := ⟨_, rfl⟩
                        rw [← hq1] at hq
                        have hq2 := hq1.symm
                        have m11 : (q1 == q1) = true := by simp
                        clear hq1
                        go_wp2_with fail
                        refine HCALL.out.mono ?_
                        rintro e w11 ⟨rfl, b11⟩
                        have K11 := Lib.hid (hb.trans (b11.mono hsz))
                        clear b11 HCALL
                        go_wp2_with fail
                        go_ret
                        exact ⟨rfl, K11.out⟩
                  · obtain ⟨h0, hle⟩ := of_decide_eq_true HC.out.symm
                    have t1 := Lib.hid (hwin.out i hle)
                    have tw : wordL (s.extract i (i + r)).data.toList = true := word_infY HS.out (inf_ext.2 ⟨i, by rw [ext_size s i (i + r) hle (by omega)]; omega, by rw [ext_size s i (i + r) hle (by omega), show i + (i + r - i) = i + r by omega]⟩)
                    have hcall := Lib.hid (complexityOf_i (s.extract i (i + r)) n wr tw hn1 (by omega))
                    rw [t1.out, ← HNL.out] at hcall
                    have j1 : (i : Int) + (r : Int) ≤ (s.size : Int) := by omega
                    have j2 : (i : Int) ≤ (i : Int) + (r : Int) := by omega
                    have j3 : 0 ≤ (i : Int) + (r : Int) := by omega
                    have j4 : ((i : Int) + (r : Int)).toNat = i + r := by omega
                    have j5 : ((NL : Int) != (NL : Int)) = false := by simp
                    clear tw
                    go_wp2_with fail
                    refine hcall.out.mono ?_
                    rintro e w11 ⟨rfl, b11⟩
                    have K11 := Lib.hid (hbr.trans (b11.mono hbr.size))
                    clear b11 hcall
                    go_wp2_with fail
                    go_roundw
                    case rel => exact ⟨i + 1, by go_num, by omega, K11.out⟩
                    case measure => simp [intOf] <;> omega
end Go.Proofs.Ytlmciomoimfajaa
