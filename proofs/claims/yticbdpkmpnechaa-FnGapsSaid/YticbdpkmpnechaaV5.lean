/- The walk of the law FnGaps: it returns true. Conditions: the code's bytes can be read. -/
import Derived.Test.YticbdpkmpnechaaV3
import Derived.Test.YticbdpkmpnechaaV4
import Derived.Test.YticbdpkmpnechaaV6
import Derived.Deep.Cut
import Derived.Deep.CutRange
namespace Go.Proofs.Yticbdpkmpnechaa
open Go.RowKit
set_option linter.unusedVariables false

theorem own_baseI {w : World} {B B0 : Nat} {v : Value} {l : List Int} (h : OwnI w B v l) (hB : B0 ≤ B) : OwnI w B0 v l := own_base h hB
theorem gE_bd {X : List Int} {q i : Nat} {d : Int} (h : gE X q i = d) (hx : ∀ j, j < X.length → 0 ≤ gAt X j ∧ gAt X j ≤ 1000) (hi : i < X.length) (hq : q ≤ 1000) : d ≤ 2000 := by
  have h0 := hx 0 (by omega)
  have h1 := hx i hi
  rw [← h]; unfold gE
  split
  · have := hx (i + 1) (by assumption); omega
  · omega

theorem rdI_ne {w : World} {v : Value} {L : List Int} (h : RdI w v L) (h0 : 1 ≤ L.length) : ∃ g c, v = .slice (some ⟨g, 0, none⟩) L.length c ∧ L.length ≤ c ∧ ∀ k, k < L.length → w.cell? ⟨g, k, none⟩ = some (.int .i64 (gAt L k)) := by
  rcases h with ⟨_, h1⟩ | ⟨g, c, hv, hc, h⟩
  · rw [h1] at h0; simp at h0
  · exact ⟨g, c, hv, hc, fun k hk => h k _ (gAt_get hk)⟩

/-- what the walk needs of the points, their distances and the world behind them -/
structure GF (p q n : Nat) (X G L : List Int) (gX cX gG cG gL cL : Nat) (a0 : Option Addr) (len0 cap0 : Nat) (z0 : List Int) (w W : World) : Prop where
  len : len0 ≤ 1048576
  row : IsRow .u8 W a0 len0 cap0 z0
  bel : Below w.heap.size w W
  isX : X = ptW p q n
  x0 : gAt X 0 = 0
  glen : G.length = X.length
  sum : sumL G = q
  gget : ∀ i, i < X.length → G[i]? = some (gE X q i)
  gbd : ∀ x ∈ G, 1 ≤ x ∧ x ≤ 2000
  lmem : ∀ x, x ∈ L ↔ x ∈ G
  three : L.length = 3 → gAt L 2 = gAt L 0 + gAt L 1
  xbd : ∀ i, i < X.length → 0 ≤ gAt X i ∧ gAt X i ≤ 1000
  kX : X.length ≤ cX
  kG : X.length ≤ cG
  kL : L.length ≤ cL
  cx : ∀ k, k < X.length → W.cell? ⟨gX, k, none⟩ = some (.int .i64 (gAt X k))
  cg : ∀ k, k < X.length → W.cell? ⟨gG, k, none⟩ = some (.int .i64 (gAt G k))
  cl : ∀ k, k < L.length → W.cell? ⟨gL, k, none⟩ = some (.int .i64 (gAt L k))
theorem GF.drewN {p q n : Nat} {X G L : List Int} {gX cX gG cG gL cL : Nat} {a0 : Option Addr} {len0 cap0 : Nat} {z0 : List Int} {w W : World} (F : GF p q n X G L gX cX gG cG gL cL a0 len0 cap0 z0 w W) (d : Nat) : GF p q n X G L gX cX gG cG gL cL a0 len0 cap0 z0 w (W.drewN d) :=
  ⟨F.len, F.row, below_drewN F.bel d, F.isX, F.x0, F.glen, F.sum, F.gget, F.gbd, F.lmem, F.three, F.xbd, F.kX, F.kG, F.kL, F.cx, F.cg, F.cl⟩
theorem GF.gk {p q n : Nat} {X G L : List Int} {gX cX gG cG gL cL : Nat} {a0 : Option Addr} {len0 cap0 : Nat} {z0 : List Int} {w W : World} (F : GF p q n X G L gX cX gG cG gL cL a0 len0 cap0 z0 w W) {k : Nat} (h : k < X.length) : gAt G k = gE X q k := by
  have e1 := F.gget k h
  have e2 := gAt_get (l := G) (i := k) (by rw [F.glen]; exact h)
  rw [e1] at e2
  exact (Option.some.inj e2).symm
theorem GF.hsum {p q n : Nat} {X G L : List Int} {gX cX gG cG gL cL : Nat} {a0 : Option Addr} {len0 cap0 : Nat} {z0 : List Int} {w W : World} (F : GF p q n X G L gX cX gG cG gL cL a0 len0 cap0 z0 w W) (hX : X.length ≤ 400) (d : Nat) :
    Calls Try.prog 44 #[.slice (some ⟨gG, 0, none⟩) X.length cG] (W.drewN d) fun e w' => e = .returned (.int .i64 (q : Int)) ∧ w' = W.drewN d := by
  have := sum_c (.slice (some ⟨gG, 0, none⟩) X.length cG) G (W.drewN d) (.inr ⟨gG, cG, by rw [F.glen], by rw [F.glen]; exact F.kG, fun j x hj => by
    have hjl := (List.getElem?_eq_some_iff.1 hj).1
    rw [gAt_get hjl] at hj
    rw [← Option.some.inj hj]; exact F.cg j (by rw [← F.glen]; exact hjl)⟩) (by rw [F.glen]; omega) (fun x hx => by have := F.gbd x hx; omega)
  rw [F.sum] at this; exact this.mono fun _ _ ⟨a, b⟩ => ⟨a, b.symm⟩
theorem GF.hhas {p q n : Nat} {X G L : List Int} {gX cX gG cG gL cL : Nat} {a0 : Option Addr} {len0 cap0 : Nat} {z0 : List Int} {w W : World} (F : GF p q n X G L gX cX gG cG gL cL a0 len0 cap0 z0 w W) (hL : L.length ≤ 400) {x : Int} (hx : x ∈ G) (d : Nat) :
    Calls Try.prog 45 #[.slice (some ⟨gL, 0, none⟩) L.length cL, .int .i64 x] (W.drewN d) fun e w' => e = .returned (.bool true) ∧ w' = W.drewN d := by
  have := has_c (.slice (some ⟨gL, 0, none⟩) L.length cL) L x (W.drewN d) (.inr ⟨gL, cL, rfl, F.kL, fun j x hj => by
    have hjl := (List.getElem?_eq_some_iff.1 hj).1
    rw [gAt_get hjl] at hj
    rw [← Option.some.inj hj]; exact F.cl j hjl⟩) (by omega)
  rw [decide_eq_true ((F.lmem x).2 hx)] at this; exact this.mono fun _ _ ⟨a, b⟩ => ⟨a, b.symm⟩

set_option maxRecDepth 100000 in
set_option maxHeartbeats 20000000 in
theorem lawGaps_w (a0 : Option Addr) (len0 cap0 : Nat) (z0 : List Int) (w : World) (w0 : IsRow .u8 w a0 len0 cap0 z0) :
    Calls Try.prog 14 #[.slice a0 len0 cap0] w fun e w' => e = .returned (.bool true) ∧ Below w.heap.size w w' := by
  by_cases hbig : 1048576 < len0
  · have hd : decide ((1048576 : Int) < (len0 : Int)) = true := decide_eq_true (by omega)
    go_enter Try.func14, Try.ntmps14
    go_wp2
    go_ret
    exact ⟨rfl, Below.refl _ _⟩
  · have hd : decide ((1048576 : Int) < (len0 : Int)) = false := decide_eq_false (by omega)
    have hM := fun (n : Nat) (lo hi : Int) W (hW : IsRow .u8 W a0 len0 cap0 z0) (h1 : n ≤ 1000000) (h2 : -1000000 ≤ lo) (h3 : lo ≤ hi) (h4 : hi ≤ 1000000) => Lib.hid (makeSize_c a0 len0 cap0 z0 n lo hi W hW (by omega) h1 h2 h3 h4)
    have HW0 := Lib.hid w0
    have c1 := hM 0 1 60 w w0 (by omega) (by omega) (by omega) (by omega)
    have hlen : len0 ≤ 1048576 := by omega
    clear w0 hbig
    go_enter Try.func14, Try.ntmps14
    go_wp2_with fail
    refine c1.out.mono ?_
    rintro e w1 ⟨q1, rfl, hq1, hq2, hb1⟩
    obtain ⟨q, rfl⟩ : ∃ q : Nat, q1 = (q : Int) := ⟨q1.toNat, by omega⟩
    have HW1 := Lib.hid (HW0.out.keep hb1)
    have HB1 := Lib.hid hb1
    have c2 := hM 1 0 ((q : Int) - 1) w1 HW1.out (by omega) (by omega) (by omega) (by omega)
    clear c1
    go_wp2_with fail
    refine c2.out.mono ?_
    rintro e w2 ⟨p1, rfl, hp1, hp2, hb2⟩
    obtain ⟨p, rfl⟩ : ∃ p : Nat, p1 = (p : Int) := ⟨p1.toNat, by omega⟩
    have HW2 := Lib.hid (HW1.out.keep hb2)
    have HB2 := Lib.hid (HB1.out.trans (hb2.mono HB1.out.size))
    have c3 := hM 2 1 40 w2 HW2.out (by omega) (by omega) (by omega) (by omega)
    clear c2
    go_wp2_with fail
    refine c3.out.mono ?_
    rintro e w3 ⟨n1, rfl, hn1, hn2, hb3⟩
    obtain ⟨n, rfl⟩ : ∃ n : Nat, n1 = (n : Int) := ⟨n1.toNat, by omega⟩
    have HW3 := Lib.hid (HW2.out.keep hb3)
    have HB3 := Lib.hid (HB2.out.trans (hb3.mono HB2.out.size))
    have kq1 : 1 ≤ q := by omega
    have kq2 : q ≤ 60 := by omega
    have kp : p < q := by omega
    have kn1 : 1 ≤ n := by omega
    have kn2 : n ≤ 40 := by omega
    clear c3 hb1 hb2 hb3 hq1 hq2 hp1 hp2 hn1 hn2
    -- the plain facts
    have P := pts_of kp (by omega) kn1 (by omega)
    have HP := Lib.hid P
    have hXn := pts_len kp (by omega) kn1 (show n ≤ 400 by omega)
    obtain ⟨hX1, hX0⟩ := P.zero
    have HL := Lib.hid P.lens
    have HSum := Lib.hid (sum_gaps (ptW p q n) q hX1)
    have HG := Lib.hid (fun i (hi : i < (ptW p q n).length) => gapTo_get (ptW p q n) q (ptW p q n).length i hi)
    have HGap := Lib.hid (fun i (hi : i < (ptW p q n).length) => P.gap hi)
    have HBd := Lib.hid (fun i (hi : i < (ptW p q n).length) => gAt_bd (p := p) (q := q) (n := n) hi)
    have hGl := gapTo_len (ptW p q n) q (ptW p q n).length
    have hx := Lib.hid (pointsOf_i p q n w3)
    have hg := fun W => Lib.hid (gapsOf_i p q n W)
    have hl := fun W => Lib.hid (gapLengths_i p q n W)
    have hgw : gapW p q n = gapTo (ptW p q n) q (ptW p q n).length := rfl
    have hlw : glW p q n = uniq (gapTo (ptW p q n) q (ptW p q n).length) := rfl
    rw [hgw] at hg
    rw [hlw] at hl
    obtain ⟨X, hX⟩ : ∃ X, X = ptW p q n := ⟨_, rfl⟩
    rw [← hX] at hXn hX1 hX0 HL HSum HG HGap HBd hGl hx hg hl
    obtain ⟨G, hG⟩ : ∃ G, G = gapTo X q X.length := ⟨_, rfl⟩
    rw [← hG] at HL HSum HG hGl hg hl
    obtain ⟨L, hL⟩ : ∃ L, L = uniq G := ⟨_, rfl⟩
    rw [← hL] at HL hl
    have HLm : Hid (∀ x, x ∈ L ↔ x ∈ G) := fun x => by rw [hL]; exact uniq_mem G x
    have HX := Lib.hid hX
    clear P hgw hlw hX hG hL
    go_wp2_with fail
    refine hx.out.mono ?_
    rintro e w4 ⟨vX, rfl, oX, bX⟩
    have HB4 := Lib.hid (HB3.out.trans (bX.mono HB3.out.size))
    have OX := Lib.hid oX
    have hg4 := hg w4
    clear oX hg hx
    go_wp2_with fail
    refine hg4.out.mono ?_
    rintro e w5 ⟨vG, rfl, oG, bG⟩
    have HB5 := Lib.hid (HB4.out.trans (bG.mono HB4.out.size))
    have OX5 := Lib.hid (own_below OX.out bG)
    have OG := Lib.hid oG
    have hl5 := hl w5
    clear oG hl hg4
    go_wp2_with fail
    refine hl5.out.mono ?_
    rintro e w6 ⟨vL, rfl, oL, bL⟩
    have HB6 := Lib.hid (HB5.out.trans (bL.mono HB5.out.size))
    have RX := Lib.hid (OwnI.rd (own_below OX5.out bL))
    have RG := Lib.hid (OwnI.rd (own_below OG.out bL))
    have RL := Lib.hid (OwnI.rd oL)
    have HW6 := Lib.hid (((HW3.out.keep bX).keep bG).keep bL)
    clear oL hl5 bX bG bL OX OX5 OG HB4 HB5
    have hGb : Hid (∀ x ∈ G, 1 ≤ x ∧ x ≤ 2000) := fun x hx => by
      obtain ⟨i, hi, e⟩ := List.mem_iff_getElem.1 hx
      rw [hGl] at hi
      have e1 := HG.out i hi
      rw [List.getElem?_eq_getElem (by rw [hGl]; exact hi), e] at e1
      have e2 := Option.some.inj e1
      obtain ⟨k, d, _, e3, hgp⟩ := HGap.out i hi
      have := gE_bd e2.symm HBd.out hi (by omega)
      have := hgp.1
      omega
    obtain ⟨gX, cX, rfl, kX, CX0⟩ := rdI_ne RX.out hX1
    have hG1 : 1 ≤ G.length := by omega
    obtain ⟨gG, cG, hvG, kG, CG0⟩ := rdI_ne RG.out hG1
    subst hvG
    obtain ⟨hL1, hL3, hLs⟩ := HL.out
    obtain ⟨gL, cL, hvL, kL, CL0⟩ := rdI_ne RL.out hL1
    subst hvL
    have hLX : L.length ≤ 3 := hL3
    have F : GF p q n X G L gX cX gG cG gL cL a0 len0 cap0 z0 w w6 :=
      ⟨hlen, HW6.out, HB6.out, HX.out, hX0, hGl, HSum.out, HG.out, hGb.out, HLm.out, hLs, HBd.out, kX, by rw [← hGl]; exact kG, kL, CX0, fun k hk => CG0 k (by rw [hGl]; exact hk), CL0⟩
    rw [hGl]
    obtain ⟨NX, hNX⟩ : ∃ NX, NX = X.length := ⟨_, rfl⟩
    obtain ⟨NL, hNL⟩ : ∃ NL, NL = L.length := ⟨_, rfl⟩
    rw [← hNX] at hXn hX1 ⊢
    rw [← hNL] at hL1 hLX ⊢
    have HNX := Lib.hid hNX
    have HNL := Lib.hid hNL
    clear kX kG kL CX0 CG0 CL0 hG1 hNX hNL hL3 hLs HX HLm RX RG RL HW6 HB6 HL HSum HG HGap HBd HP hM HW0 HW1 HW2 HW3 HB1 HB2 HB3 hX0 hGl hGb
    have d1 : decide ((NX : Int) < 1) = false := decide_eq_false (by omega)
    have d2 : decide ((n : Int) < (NX : Int)) = false := decide_eq_false (by omega)
    have d2n : decide (n < NX) = false := decide_eq_false (by omega)
    have d3 : ((NX : Int) != (NX : Int)) = false := by simp
    have x1 : (0 : Int) < (NX : Int) := by omega
    have hz : ((0 : Int) != 0) = false := rfl
    go_upto_region 9 with fail
    go_cut [96] from 41 to 96 (fun s96 wx => s96 = .bool false ∧ ∃ d, wx = w6.drewN d)
    case first =>
      have x0 : w6.cell? ⟨gX, 0, none⟩ = some (.int .i64 0) := by have := F.cx 0 (by rw [← HNX.out]; omega); rw [F.x0] at this; exact this
      have kX : NX ≤ cX := by have := F.kX; rw [← HNX.out] at this; exact this
      have kL : NL ≤ cL := by have := F.kL; rw [← HNL.out] at this; exact this
      have hS : ∀ d, Calls Try.prog 44 #[.slice (some ⟨gG, 0, none⟩) NX cG] (w6.drewN d) fun e w' => e = .returned (.int .i64 (q : Int)) ∧ w' = w6.drewN d := fun d => by
        have := F.hsum (by rw [← HNX.out]; omega) d; rw [← HNX.out] at this; exact this
      have HsumD := Lib.hid hS
      have hs0 : ((q : Int) != (q : Int)) = false := by simp
      clear hS kq1 kq2 kp kn1 kn2
      by_cases h3 : NL = 3
      · have y0 := F.cl 0 (by rw [← HNL.out]; omega)
        have y1 := F.cl 1 (by rw [← HNL.out]; omega)
        have y2 := F.cl 2 (by rw [← HNL.out]; omega)
        have m0 := F.gbd (gAt L 0) ((F.lmem _).1 (gAt_mem (by rw [← HNL.out]; omega)))
        have m1 := F.gbd (gAt L 1) ((F.lmem _).1 (gAt_mem (by rw [← HNL.out]; omega)))
        rw [F.three (by rw [← HNL.out]; exact h3)] at y2
        generalize gAt L 0 = a at y0 y2 m0
        generalize gAt L 1 = b at y1 y2 m1
        have e1 : IntKind.i64.wrap (a + b) = a + b := IntWalk.i64_in _ (by omega)
        have hs1 : ((a + b) != (a + b)) = false := by simp
        subst h3
        clear F HNX HNL
        go_quiet ((go_at_call 44; exact Calls.quiet_of_same (HsumD.out _)))
        go_wp2_with fail
        go_meet
        case rel => exact ⟨rfl, _, rfl⟩
      · have d4 : decide ((NL : Int) < 1) = false := decide_eq_false (by omega)
        have d5 : decide ((3 : Int) < (NL : Int)) = false := decide_eq_false (by omega)
        have d6 : ((NL : Int) == 3) = false := by simp; omega
        clear F HNX HNL
        go_quiet ((go_at_call 44; exact Calls.quiet_of_same (HsumD.out _)))
        go_wp2_with fail
        go_meet
        case rel => exact ⟨rfl, _, rfl⟩
    case rest =>
      obtain ⟨rfl, dE, hwE⟩ := hcut
      have F2 : GF p q n X G L gX cX gG cG gL cL a0 len0 cap0 z0 w wc := by rw [hwE]; exact F.drewN dE
      have HF := Lib.hid F2
      have kX : NX ≤ cX := by have := F.kX; rw [← HNX.out] at this; exact this
      have kG : NX ≤ cG := by have := F.kG; rw [← HNX.out] at this; exact this
      have kL : NL ≤ cL := by have := F.kL; rw [← HNL.out] at this; exact this
      clear F F2 hwE d1 d2 d2n d3
      go_wp2_with fail
      go_loopw [99] (fun z wr => ∃ k d : Nat, z = .int .i64 (k : Int) ∧ k ≤ NX ∧ wr = wc.drewN d) (fun z _ => NX - (intOf z).toNat)
      case atStart => exact ⟨0, 0, rfl, by omega, rfl⟩
      case round =>
        obtain ⟨k, d, rfl, hk, hwr⟩ := hrel
        have HWR := Lib.hid hwr
        have HFR : Hid (GF p q n X G L gX cX gG cG gL cL a0 len0 cap0 z0 w wr) := by rw [hwr]; exact HF.out.drewN d
        clear hwr
        by_cases hlt : k < NX
        · have g0 := HFR.out.cg k (by rw [← HNX.out]; exact hlt)
          have x0 := HFR.out.cx k (by rw [← HNX.out]; exact hlt)
          have hb := HFR.out.xbd k (by rw [← HNX.out]; exact hlt)
          have hkX : k < X.length := by rw [← HNX.out]; exact hlt
          have hmem : gAt G k ∈ G := gAt_mem (by rw [HFR.out.glen]; exact hkX)
          have hgb := HFR.out.gbd _ hmem
          have hh := Lib.hid (fun d' => HFR.out.hhas (by have := HNL.out; omega) hmem d')
          have hge := Lib.hid (HFR.out.gk hkX)
          have HX0 := Lib.hid hkX
          have b0 : (k : Int) < (NX : Int) := by omega
          have b1 : decide (k < NX) = true := decide_eq_true hlt
          have e1 : IntKind.i64.wrap ((k : Int) + 1) = (k : Int) + 1 := IntWalk.i64_in _ (by omega)
          have e2 : ((k : Int) + 1).toNat = k + 1 := by omega
          rw [← HNL.out] at hh
          clear hkX hmem
          by_cases hl2 : k + 1 < NX
          · have x1 := HFR.out.cx (k + 1) (by rw [← HNX.out]; exact hl2)
            have hsum : gAt X k + gAt G k = gAt X (k + 1) := by
              rw [hge.out]; unfold gE; rw [if_pos (by rw [← HNX.out]; exact hl2)]; omega
            have f1 : (k : Int) + 1 < (NX : Int) := by omega
            have f2 : decide (k + 1 < NX) = true := decide_eq_true hl2
            generalize gAt X (k + 1) = b at x1 hsum
            generalize gAt X k = a at x0 hsum hb
            generalize gAt G k = g at g0 hsum hgb hh
            subst hsum
            have dd : decide (g < 1) = false := decide_eq_false (by omega)
            have ew : IntKind.i64.wrap (a + g) = a + g := IntWalk.i64_in _ (by omega)
            have hne : ((a + g) != (a + g)) = false := by simp
            go_wp2_with fail
            go_quiet ((go_at_call 45; exact Calls.quiet_of_same (hh.out _)))
            go_wp2_with fail
            go_roundw
            case rel => exact ⟨k + 1, _, by go_num, by omega, by rw [HWR.out, World.drewN_drewN]⟩
            case measure => simp [intOf] <;> omega
          · have f1 : ¬ (k : Int) + 1 < (NX : Int) := by omega
            have f2 : decide (k + 1 < NX) = false := decide_eq_false hl2
            have f3 : decide ((k : Int) + 1 < (NX : Int)) = false := decide_eq_false (by omega)
            generalize gAt G k = g at g0 hgb hh
            have dd : decide (g < 1) = false := decide_eq_false (by omega)
            clear hge
            go_wp2_with fail
            go_quiet ((go_at_call 45; exact Calls.quiet_of_same (hh.out _)))
            go_wp2_with fail
            go_roundw
            case rel => exact ⟨k + 1, _, by go_num, by omega, by rw [HWR.out, World.drewN_drewN]⟩
            case measure => simp [intOf] <;> omega
        · have b0 : ¬ (k : Int) < (NX : Int) := by omega
          clear HWR HF hlt
          go_upto_if 135 with fail
          go_cut [] from 135 to 189 (fun wx => Below wr.heap.size wr wx)
          case first =>
            by_cases hn1 : 1 < n
            · have hn1i : decide ((1 : Int) < (n : Int)) = true := decide_eq_true (by omega)
              obtain ⟨u, v, eu, ev, u1, u2, v1, v2, huv⟩ := near_ok (p := p) (q := q) (n := n) kp (by omega) (by omega) (by omega)
              have hN := Lib.hid (nearestTo_i p q n wr)
              rw [eu, ev] at hN
              have hisX := HFR.out.isX
              rw [← hisX, ← HNX.out] at huv
              have HUV := Lib.hid huv
              clear eu ev huv hisX
              rw [hn1i]
              go_wp2_with fail
              refine hN.out.mono ?_
              rintro e wN ⟨rfl, bN⟩
              have HBN := Lib.hid bN
              have hcx := Lib.hid (fun k (hk : k < X.length) => show wN.cell? ⟨gX, k, none⟩ = some (.int .i64 (gAt X k)) by
                have h := HFR.out.cx k hk
                rw [bN.cell (p := ⟨gX, k, none⟩) (World.block_lt_of_cell? wr _ h)]; exact h)
              clear hN bN
              have up : u * p ≤ 40 * 60 := Nat.mul_le_mul (by omega) (by omega)
              have vp : v * p ≤ 40 * 60 := Nat.mul_le_mul (by omega) (by omega)
              obtain ⟨U, hU⟩ : ∃ U, U = u * p := ⟨_, rfl⟩
              obtain ⟨V, hV⟩ : ∃ V, V = v * p := ⟨_, rfl⟩
              rw [← hU] at up
              rw [← hV] at vp
              have mU : (u : Int) * (p : Int) = (U : Int) := by rw [hU]; exact (Int.natCast_mul u p).symm
              have mV : (v : Int) * (p : Int) = (V : Int) := by rw [hV]; exact (Int.natCast_mul v p).symm
              have wU : IntKind.i64.wrap (U : Int) = (U : Int) := IntWalk.i64_in _ (by omega)
              have wV : IntKind.i64.wrap (V : Int) = (V : Int) := IntWalk.i64_in _ (by omega)
              have tU : ((U : Int)).tmod (q : Int) = ((fR p q u : Nat) : Int) := by rw [hU, Int.tmod_eq_emod_of_nonneg (by omega)]; exact (Int.natCast_emod _ _).symm
              have tV : ((V : Int)).tmod (q : Int) = ((fR p q v : Nat) : Int) := by rw [hV, Int.tmod_eq_emod_of_nonneg (by omega)]; exact (Int.natCast_emod _ _).symm
              have tU2 : ((U : Int)) % (q : Int) = ((fR p q u : Nat) : Int) := by rw [hU]; exact (Int.natCast_emod _ _).symm
              have tV2 : ((V : Int)) % (q : Int) = ((fR p q v : Nat) : Int) := by rw [hV]; exact (Int.natCast_emod _ _).symm
              have fU := (fR_rot (p := p) (q := q) (by omega)).lt u
              have fV := (fR_rot (p := p) (q := q) (by omega)).lt v
              clear hU hV
              generalize fR p q u = fu at tU tU2 fU HUV
              generalize fR p q v = fv at tV tV2 fV HUV
              have xU : IntKind.i64.wrap (fu : Int) = (fu : Int) := IntWalk.i64_in _ (by omega)
              have xV : IntKind.i64.wrap (fv : Int) = (fv : Int) := IntWalk.i64_in _ (by omega)
              have q0 : ((q : Int) == 0) = false := by simp; omega
              have a1 : decide ((u : Int) < 1) = false := decide_eq_false (by omega)
              have a2 : decide (n ≤ u) = false := decide_eq_false (by omega)
              have a3 : decide ((v : Int) < 1) = false := decide_eq_false (by omega)
              have a4 : decide (n ≤ v) = false := decide_eq_false (by omega)
              by_cases hNn : NX = n
              · have x1 := hcx.out 1 (by rw [← HNX.out]; omega)
                obtain ⟨j, hj⟩ : ∃ j : Nat, (NX : Int) - 1 = (j : Int) := ⟨NX - 1, by omega⟩
                have x2 := hcx.out j (by rw [← HNX.out]; omega)
                obtain ⟨g1, g2⟩ := HUV.out hNn
                rw [← g1] at x1
                rw [show j = n - 1 by omega, ← g2, ← show j = n - 1 by omega] at x2
                have hjw : IntKind.i64.wrap (j : Int) = (j : Int) := IntWalk.i64_in _ (by omega)
                have j1 : j < NX := by omega
                have j2 : 1 < NX := by omega
                have c1 : ((n : Int) == (n : Int)) = true := by simp
                have c2 : ((fu : Int) != (fu : Int)) = false := by simp
                have c3 : ((fv : Int) != (fv : Int)) = false := by simp
                subst hNn
                clear g1 g2 HUV hcx
                go_wp2_with fail
                go_quiet (fail)
                go_wp2_with fail
                go_meet
                case rel => exact below_drewN HBN.out _
              · have c1 : ((NX : Int) == (n : Int)) = false := by simp; omega
                have c2 : (NX == n) = false := by simpa using hNn
                have c3 : decide (NX = n) = false := decide_eq_false hNn
                clear HUV hcx
                go_wp2_with fail
                go_quiet (fail)
                go_wp2_with fail
                go_meet
                case rel => exact below_drewN HBN.out _
            · have hn1i : decide ((1 : Int) < (n : Int)) = false := decide_eq_false (by omega)
              go_wp2_with fail
              go_meet
              case rel => exact Below.refl _ _
          case rest =>
            have HB := Lib.hid (HFR.out.bel.trans (hcut.mono HFR.out.bel.size))
            have HW := Lib.hid (HFR.out.row.keep hcut)
            have hlen := HFR.out.len
            have hM := fun (n : Nat) (lo hi : Int) W (hW : IsRow .u8 W a0 len0 cap0 z0) (h1 : n ≤ 1000000) (h2 : -1000000 ≤ lo) (h3 : lo ≤ hi) (h4 : hi ≤ 1000000) => Lib.hid (makeSize_c a0 len0 cap0 z0 n lo hi W hW hlen h1 h2 h3 h4)
            have c1 := hM 3 0 ((q : Int) - 1) wc HW.out (by omega) (by omega) (by omega) (by omega)
            clear hcut HFR HNX HNL kX kG kL
            go_wp2_with fail
            refine c1.out.mono ?_
            rintro e w1 ⟨l1, rfl, l2, l3, b1⟩
            obtain ⟨lo, rfl⟩ : ∃ lo : Nat, l1 = (lo : Int) := ⟨l1.toNat, by omega⟩
            have HB1 := Lib.hid (HB.out.trans (b1.mono HB.out.size))
            have HW1 := Lib.hid (HW.out.keep b1)
            have c2 := hM 4 (lo : Int) ((q : Int) - 1) w1 HW1.out (by omega) (by omega) (by omega) (by omega)
            clear c1 b1 HB HW l2
            go_wp2_with fail
            refine c2.out.mono ?_
            rintro e w2 ⟨h1, rfl, h2, h3, b2⟩
            obtain ⟨hi, rfl⟩ : ∃ hi : Nat, h1 = (hi : Int) := ⟨h1.toNat, by omega⟩
            have HB2 := Lib.hid (HB1.out.trans (b2.mono HB1.out.size))
            have HW2 := Lib.hid (HW1.out.keep b2)
            have hlh : lo ≤ hi := by omega
            have hhq : hi < q := by omega
            have c3 := Lib.hid (returnTimes_i p q lo hi w2)
            obtain ⟨T, hT⟩ : ∃ T, T = rtsW p q lo hi := ⟨_, rfl⟩
            have HT := Lib.hid hT
            rw [← hT] at c3
            clear c2 b2 HB1 HW1 hT h2 h3 l3
            go_wp2_with fail
            refine c3.out.mono ?_
            rintro e w3 ⟨vT, rfl, oT, b3⟩
            have HB3 := Lib.hid (HB2.out.trans (b3.mono HB2.out.size))
            have HW3 := Lib.hid (HW2.out.keep b3)
            obtain ⟨t1, t3, _⟩ := times_ok (p := p) (q := q) (lo := lo) (hi := hi) (fr := lo) kp (by omega) (Nat.le_refl _) hlh hhq
            rw [← HT.out] at t1 t3
            have RT := Lib.hid oT.rd
            obtain ⟨gT, cT, hvT, kT, _⟩ := rdI_ne RT.out t1
            subst hvT
            have c4 := hM 5 (lo : Int) (hi : Int) w3 HW3.out (by omega) (by omega) (by omega) (by omega)
            obtain ⟨NT, hNT⟩ : ∃ NT, NT = T.length := ⟨_, rfl⟩
            have HNT := Lib.hid hNT
            rw [← hNT] at t1 t3 kT ⊢
            have z1 : decide ((NT : Int) < 1) = false := decide_eq_false (by omega)
            have z2 : decide ((3 : Int) < (NT : Int)) = false := decide_eq_false (by omega)
            clear c3 oT b3 HB2 HW2 hNT
            go_wp2_with fail
            refine c4.out.mono ?_
            rintro e w4 ⟨f1, rfl, f2, f3, b4⟩
            obtain ⟨fr, rfl⟩ : ∃ fr : Nat, f1 = (fr : Int) := ⟨f1.toNat, by omega⟩
            have HB4 := Lib.hid (HB3.out.trans (b4.mono HB3.out.size))
            have RT4 := Lib.hid (RT.out.below b4)
            have c5 := Lib.hid (returnTime_i p q lo hi fr w4)
            obtain ⟨r, er, _, _, r2, r3⟩ := rt_first (p := p) (q := q) (lo := lo) (hi := hi) (fr := fr) kp (by omega) (by omega) (by omega) hhq
            obtain ⟨_, _, hrm⟩ := times_ok (p := p) (q := q) (lo := lo) (hi := hi) (fr := fr) kp (by omega) (by omega) (by omega) hhq
            rw [er] at c5 hrm
            rw [← HT.out] at hrm
            have c6 := Lib.hid (has_c (.slice (some ⟨gT, 0, none⟩) T.length cT) T (r : Int) w4 RT4.out (by rw [← HNT.out]; omega))
            rw [decide_eq_true hrm, ← HNT.out] at c6
            have hM2 := inB_iff.1 r2
            have rp : r * p ≤ 1000 * 60 := Nat.mul_le_mul r3 (by omega)
            obtain ⟨U, hU⟩ : ∃ U, U = r * p := ⟨_, rfl⟩
            rw [← hU] at rp
            have mU : (r : Int) * (p : Int) = (U : Int) := by rw [hU]; exact (Int.natCast_mul r p).symm
            rw [mU] at hM2
            have wU : IntKind.i64.wrap (U : Int) = (U : Int) := IntWalk.i64_in _ (by omega)
            have wS : IntKind.i64.wrap ((fr : Int) + (U : Int)) = (fr : Int) + (U : Int) := IntWalk.i64_in _ (by omega)
            obtain ⟨M, hMM⟩ : ∃ M, M = ((fr : Int) + (U : Int)) % (q : Int) := ⟨_, rfl⟩
            rw [← hMM] at hM2
            have tM : ((fr : Int) + (U : Int)) % (q : Int) = M := hMM.symm
            have tM2 : ((fr : Int) + (U : Int)).tmod (q : Int) = M := by rw [Int.tmod_eq_emod_of_nonneg (by omega)]; exact tM
            have q0 : ((q : Int) == 0) = false := by simp; omega
            obtain ⟨m1, m2⟩ := hM2
            have wM : IntKind.i64.wrap M = M := IntWalk.i64_in _ (by omega)
            obtain ⟨n1, n2⟩ := count_ok (p := p) (q := q) (n := n) (lo := (lo : Int)) (hi := (hi : Int)) kp (by omega) kn1 (by omega) (by omega) (by omega) (by omega)
            have bd : ∀ a b : Int, -1 ≤ countIn p q n a b ∧ countIn p q n a b ≤ 400 := fun a b => by
              unfold countIn; split
              · have := cntIn_bd p q a b (n : Int).toNat; omega
              · omega
            have k0 := Lib.hid (countIn_i p q n 0 ((q : Int) - 1) w4)
            have k1 := Lib.hid (countIn_i p q n lo hi w4)
            have k2 := Lib.hid (countIn_i p q n 0 ((lo : Int) - 1) w4)
            have k3 := Lib.hid (countIn_i p q n ((hi : Int) + 1) ((q : Int) - 1) w4)
            rw [n1] at k0
            have d1 := bd lo hi
            have d2 := bd 0 ((lo : Int) - 1)
            have d3 := bd ((hi : Int) + 1) ((q : Int) - 1)
            generalize countIn p q n lo hi = A1 at k1 n2 d1
            generalize countIn p q n 0 ((lo : Int) - 1) = A2 at k2 n2 d2
            generalize countIn p q n ((hi : Int) + 1) ((q : Int) - 1) = A3 at k3 n2 d3
            have s1 : IntKind.i64.wrap (A1 + A2) = A1 + A2 := IntWalk.i64_in _ (by omega)
            have s2 : IntKind.i64.wrap (A1 + A2 + A3) = A1 + A2 + A3 := IntWalk.i64_in _ (by omega)
            have s3 : ((A1 + A2 + A3) == (n : Int)) = true := by simpa using n2
            have s4 : ((n : Int) == (n : Int)) = true := by simp
            have S2 := Lib.hid n2
            clear c4 b4 HB3 HW3 RT hU hMM bd n2 n1 er hrm r2 HT
            go_wp2_with fail
            refine c5.out.mono ?_
            rintro e w' ⟨rfl, rfl⟩
            go_wp2_with fail
            refine c6.out.mono ?_
            rintro e w' ⟨rfl, rfl⟩
            go_wp2_with fail
            refine k0.out.mono ?_
            rintro e w' ⟨rfl, rfl⟩
            go_wp2_with fail
            refine k1.out.mono ?_
            rintro e w' ⟨rfl, rfl⟩
            go_wp2_with fail
            refine k2.out.mono ?_
            rintro e w' ⟨rfl, rfl⟩
            go_wp2_with fail
            refine k3.out.mono ?_
            rintro e w' ⟨rfl, rfl⟩
            go_wp2_with fail
            go_ret
            exact ⟨rfl, HB4.out⟩
end Go.Proofs.Yticbdpkmpnechaa
