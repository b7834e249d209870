/- The walk of the law FnPowers: it returns true. Conditions: the code's bytes can be read; the library's variable MaxLen holds a number. -/
import Derived.Test.YtlmciomoimfajaaDoorZ3
import Derived.Test.YtlmciomoimfajaaDoorX5
import Derived.Test.YtlmciomoimfajaaDoorV8
import Derived.Test.YtlmciomoimfajaaDoorR1
import Derived.Deep.Cut
import Derived.Deep.CutRange
import Derived.Deep.RegionWith
import Derived.Deep.QuietTactic
import Derived.BigQuiet
import Derived.StillTailTactics
namespace Go.Proofs.YtlmciomoimfajaaDoor
open Go.RowKit
set_option linter.unusedVariables false

/-- what the law compares: five cases -/
theorem pw_cases {s : ByteArray} (hw : wordL s.data.toList = true) (hz : s.size ≤ 16) : ∃ q2 q21 q3 : Bool, cB (RepP s.data.toList 2 0) = q2 ∧ cB (RepP s.data.toList 2 1) = q21 ∧ cB (RepP s.data.toList 3 0) = q3 ∧
    (q2 = true ↔ 1 ≤ (sqW s).length) ∧ (geW s).1 ≤ 60 ∧ (geW s).2 ≤ 60 ∧
    ((s.size = 0 ∧ q2 = false ∧ q21 = false ∧ q3 = false ∧ (geW s).1 = 0 ∧ (geW s).2 = 0) ∨
     (1 ≤ s.size ∧ q2 = false ∧ q21 = false ∧ q3 = false ∧ (geW s).1 < 2 * (geW s).2 ∧ (geW s).1 < 3 * (geW s).2) ∨
     (1 ≤ s.size ∧ q2 = true ∧ q21 = false ∧ q3 = false ∧ (geW s).1 = 2 * (geW s).2 ∧ (geW s).1 < 3 * (geW s).2) ∨
     (1 ≤ s.size ∧ q2 = true ∧ q21 = true ∧ q3 = false ∧ 2 * (geW s).2 < (geW s).1 ∧ (geW s).1 < 3 * (geW s).2) ∨
     (1 ≤ s.size ∧ q2 = true ∧ q21 = true ∧ q3 = true ∧ 2 * (geW s).2 < (geW s).1 ∧ 3 * (geW s).2 ≤ (geW s).1)) := by
  have hs : shortB s = true := short_of hw (by omega)
  obtain ⟨b1, b2, b3⟩ := geW_bd s hs
  have hsq : cB (RepP s.data.toList 2 0) = true ↔ 1 ≤ (sqW s).length := by
    rw [← sqW_rep hs]
    constructor
    · intro h; exact Classical.byContradiction fun hn => by rw [cB_false hn] at h; cases h
    · exact cB_true
  refine ⟨_, _, _, rfl, rfl, rfl, hsq, b1, b2, ?_⟩
  rcases Nat.eq_zero_or_pos s.size with h0 | h1
  · obtain ⟨e1, e2⟩ := b3 h0
    exact .inl ⟨h0, cB_false (rep_empty h0 (by omega)), cB_false (rep_empty h0 (by omega)), cB_false (rep_empty h0 (by omega)), e1, e2⟩
  · have g2 := ge_rep hs h1 2 0 (by omega) (by omega)
    have g21 := ge_rep hs h1 2 1 (by omega) (by omega)
    have g3 := ge_rep hs h1 3 0 (by omega) (by omega)
    have hb := (geW_is hs h1).bpos
    by_cases p3 : RepP s.data.toList 3 0
    · have p21 := rep_30 p3
      have p2 := rep_21 p21
      have := g3.1 p3
      exact .inr (.inr (.inr (.inr ⟨h1, cB_true p2, cB_true p21, cB_true p3, by omega, by omega⟩)))
    · have n3 : ¬ 3 * (geW s).2 + 0 ≤ (geW s).1 := fun h => p3 (g3.2 h)
      by_cases p21 : RepP s.data.toList 2 1
      · have p2 := rep_21 p21
        have := g21.1 p21
        exact .inr (.inr (.inr (.inl ⟨h1, cB_true p2, cB_true p21, cB_false p3, by omega, by omega⟩)))
      · have n21 : ¬ 2 * (geW s).2 + 1 ≤ (geW s).1 := fun h => p21 (g21.2 h)
        by_cases p2 : RepP s.data.toList 2 0
        · have := g2.1 p2
          exact .inr (.inr (.inl ⟨h1, cB_true p2, cB_false p21, cB_false p3, by omega, by omega⟩))
        · have n2 : ¬ 2 * (geW s).2 + 0 ≤ (geW s).1 := fun h => p2 (g2.2 h)
          exact .inr (.inl ⟨h1, cB_false p2, cB_false p21, cB_false p3, by omega, by omega⟩)
set_option maxRecDepth 100000 in
set_option maxHeartbeats 20000000 in
theorem lawPowers_w (a0 : Option Addr) (len0 cap0 : Nat) (z0 : List Int) (w : World) (w0 : IsRow .u8 w a0 len0 cap0 z0) {mx : Int} (hm : w.cell? ⟨0, 0, none⟩ = some (.int .i64 mx)) :
    Calls Tryd.prog 3 #[.slice a0 len0 cap0] w fun e w' => e = .returned (.bool true) ∧ Below w.heap.size w w' := by
  by_cases hbig : 1048576 < len0
  · have hd : decide ((1048576 : Int) < (len0 : Int)) = true := decide_eq_true (by omega)
    go_enter Tryd.func3, Tryd.ntmps3
    go_wp2
    go_ret
    exact ⟨rfl, Below.refl _ _⟩
  · have hd : decide ((1048576 : Int) < (len0 : Int)) = false := decide_eq_false (by omega)
    have hlen : len0 ≤ 1048576 := by omega
    have hmb := World.block_lt_of_cell? w _ hm
    have HM := Lib.hid (fun W (hb : Below w.heap.size w W) => show W.cell? ⟨0, 0, none⟩ = some (.int .i64 mx) by rw [hb.cell (p := ⟨0, 0, none⟩) hmb]; exact hm)
    have HR := Lib.hid (fun W (hb : Below w.heap.size w W) => w0.keep hb)
    have c1 := Lib.hid (makeWord_c a0 len0 cap0 z0 0 16 w w0 hlen (by omega) (by omega))
    clear hm w0 hbig hmb
    go_enter Tryd.func3, Tryd.ntmps3
    go_wp2_with fail
    refine c1.out.mono ?_
    rintro e w1 ⟨s, rfl, hs, hlet, hb1⟩
    have HB1 := Lib.hid hb1
    have HS := Lib.hid (letL_word hlet (by omega) (by rw [← size_len]; omega))
    have HSH := Lib.hid (short_of HS.out (by omega))
    have HLET := Lib.hid hlet
    obtain ⟨q2, q21, q3, e2, e21, e3, hql, hn60, hp60, hcases⟩ := pw_cases HS.out hs
    have c2 := Lib.hid (squaresIn_i s w1 (by omega))
    obtain ⟨L, hL⟩ : ∃ L, L = sqW s := ⟨_, rfl⟩
    have i2 := Lib.hid (fun W => isSquareFree_i s W (by omega))
    have i21 := Lib.hid (fun W => isOverlapFree_i s W (by omega))
    have i3 := Lib.hid (fun W => isCubeFree_i s W (by omega))
    rw [HS.out, e2, Bool.true_and] at i2
    rw [HS.out, e21, Bool.true_and] at i21
    rw [HS.out, e3, Bool.true_and] at i3
    rw [← hL] at c2 hql
    have hLe := Lib.hid hL
    have E2 := Lib.hid e2
    have E3 := Lib.hid e3
    clear c1 hlet hb1 hL e2 e21 e3
    go_wp2_with fail
    refine c2.out.mono ?_
    rintro e w2 ⟨vL, rfl, oL, bL⟩
    have HB2 := Lib.hid (HB1.out.trans (bL.mono HB1.out.size))
    have RL := Lib.hid oL.rd
    obtain ⟨gl, cl, hvL, hjunk⟩ := rdS_shape RL.out
    clear hjunk
    subst hvL
    obtain ⟨NL, hNL⟩ : ∃ NL, NL = L.length := ⟨_, rfl⟩
    have RL := Lib.hid (show RdS w2 (.slice gl NL cl) L by rw [hNL]; exact RL.out)
    rw [← hNL] at hql ⊢
    have HNL := Lib.hid hNL
    have hLb : NL ≤ 3601 := by rw [HNL.out, hLe.out]; exact sqW_len s
    clear c2 oL bL HB1 hNL
    go_wp2_with fail
    refine (i2.out _).mono ?_
    rintro e w3 ⟨rfl, b3⟩
    have HB3 := Lib.hid (HB2.out.trans (b3.mono HB2.out.size))
    have RL3 := Lib.hid (RL.out.below b3)
    have c4 := Lib.hid (firstSquare_i s w3 (by omega))
    obtain ⟨E, H, hEH⟩ : ∃ E H, fsW s = (E, H) := ⟨_, _, rfl⟩
    have hfs := fs_facts HS.out
    rw [hEH] at c4 hfs
    have HFS := Lib.hid hfs
    have hEq : q2 = false ∧ E = -1 ∨ q2 = true ∧ 0 ≤ E ∧ E ≤ 16 := by
      rcases hfs with ⟨h1, h2⟩ | ⟨d, h, h1, h2, h3, h4, h5, _⟩
      · cases h1; exact .inl ⟨by rw [← E2.out]; exact cB_false h2, rfl⟩
      · cases h1; exact .inr ⟨by rw [← E2.out]; exact cB_true h5, by omega, by omega⟩
    clear b3 HB2 RL hfs hEH
    go_wp2_with fail
    refine c4.out.mono ?_
    rintro e w4 ⟨rfl, d4, hw4⟩
    have b4 : Below w3.heap.size w3 w4 := by rw [hw4]; exact below_drewN (Below.refl _ _) d4
    have HB4 := Lib.hid (HB3.out.trans (b4.mono HB3.out.size))
    have RL4 := Lib.hid (RL3.out.below b4)
    have c5 := Lib.hid (greatestExponent_i s w4 (by omega))
    obtain ⟨n, hn⟩ : ∃ n, n = (geW s).1 := ⟨_, rfl⟩
    obtain ⟨p, hp⟩ : ∃ p, p = (geW s).2 := ⟨_, rfl⟩
    rw [← hn, ← hp] at c5 hcases
    rw [← hn] at hn60
    rw [← hp] at hp60
    obtain ⟨x, hx⟩ : ∃ x : Int, x = (n : Int) := ⟨_, rfl⟩
    obtain ⟨y, hy⟩ : ∃ y : Int, y = (p : Int) := ⟨_, rfl⟩
    rw [← hx, ← hy] at c5
    have hx60 : 0 ≤ x ∧ x ≤ 60 := by omega
    have hy60 : 0 ≤ y ∧ y ≤ 60 := by omega
    have HC := Lib.hid hcases
    have HX := Lib.hid hx
    have HY := Lib.hid hy
    have HQL := Lib.hid hql
    have HEQ := Lib.hid hEq
    clear c4 b4 HB3 RL3 hw4 hn hp hcases hn60 hp60 hx hy hql hEq
    go_wp2_with fail
    refine c5.out.mono ?_
    rintro e w5 ⟨rfl, b5⟩
    have HB5 := Lib.hid (HB4.out.trans (b5.mono HB4.out.size))
    have RL5 := Lib.hid (RL4.out.below b5)
    clear c5 b5 HB4 RL4
    go_upto_region 8 with fail
    go_cut [108] from 42 to 108 (fun z wx => z = .bool false ∧ Below w5.heap.size w5 wx)
    case first =>
      have hri := Lib.hid (rising_c (.slice gl NL cl) L w5 RL5.out (by rw [← HNL.out]; omega) (by rw [hLe.out]; exact sqW_asc s))
      have hw2 : IntKind.i64.wrap (2 * y) = 2 * y := IntWalk.i64_in _ (by omega)
      have hw3 : IntKind.i64.wrap (3 * y) = 3 * y := IntWalk.i64_in _ (by omega)
      have hcs := HC.out
      have hx := HX.out
      have hy := HY.out
      have hql := HQL.out
      have hE := HEQ.out
      rcases hcs with hcs | hcs | hcs | hcs | hcs
      · obtain ⟨z, rfl, rfl, rfl, z1, z2⟩ := hcs
        have f1 : ((NL : Int) == 0) = true := by rw [beq_iff_eq]; have : ¬ 1 ≤ NL := fun h => (by have := hql.2 h; cases this); omega
        have f2 : (E == -1) = true := by rw [beq_iff_eq]; rcases hE with ⟨_, h⟩ | ⟨h, _⟩; exact h; cases h
        have f3 : s.toList.isEmpty = true := (isEmpty_iff s).2 z
        have glt2 : decide (x < 2 * y) = false := decide_eq_false (by omega)
        have gle2 : decide (x ≤ 2 * y) = true := decide_eq_true (by omega)
        have glt3 : decide (x < 3 * y) = false := decide_eq_false (by omega)
        clear hx hy hql hE z z1 z2
        go_wp2_with fail
        refine hri.out.mono ?_
        rintro e w6 ⟨rfl, d6, hw6⟩
        have K6 := Lib.hid (show Below w5.heap.size w5 w6 by rw [hw6]; exact below_drewN (Below.refl _ _) d6)
        clear hw6
        go_wp2_with fail
        refine (i21.out _).mono ?_
        rintro e w7 ⟨rfl, b7⟩
        have K7 := Lib.hid (K6.out.trans (b7.mono K6.out.size))
        clear b7
        go_wp2_with fail
        refine (i21.out _).mono ?_
        rintro e w8 ⟨rfl, b8⟩
        have K8 := Lib.hid (K7.out.trans (b8.mono K7.out.size))
        clear b8
        go_wp2_with fail
        refine (i3.out _).mono ?_
        rintro e w9 ⟨rfl, b9⟩
        have K9 := Lib.hid (K8.out.trans (b9.mono K8.out.size))
        clear b9
        go_wp2_with fail
        refine (i21.out _).mono ?_
        rintro e w10 ⟨rfl, b10⟩
        have K10 := Lib.hid (K9.out.trans (b10.mono K9.out.size))
        clear b10
        go_wp2_with fail
        refine (i3.out _).mono ?_
        rintro e w11 ⟨rfl, b11⟩
        have K11 := Lib.hid (K10.out.trans (b11.mono K10.out.size))
        clear b11
        go_wp2_with fail
        go_meet
        case rel => exact ⟨rfl, K11.out⟩
      · obtain ⟨z, rfl, rfl, rfl, z1, z2⟩ := hcs
        have f1 : ((NL : Int) == 0) = true := by rw [beq_iff_eq]; have : ¬ 1 ≤ NL := fun h => (by have := hql.2 h; cases this); omega
        have f2 : (E == -1) = true := by rw [beq_iff_eq]; rcases hE with ⟨_, h⟩ | ⟨h, _⟩; exact h; cases h
        have f3 : s.toList.isEmpty = false := isEmpty_no z
        have glt2 : decide (x < 2 * y) = true := decide_eq_true (by omega)
        have gle2 : decide (x ≤ 2 * y) = true := decide_eq_true (by omega)
        have glt3 : decide (x < 3 * y) = true := decide_eq_true (by omega)
        clear hx hy hql hE z z1 z2
        go_wp2_with fail
        refine hri.out.mono ?_
        rintro e w6 ⟨rfl, d6, hw6⟩
        have K6 := Lib.hid (show Below w5.heap.size w5 w6 by rw [hw6]; exact below_drewN (Below.refl _ _) d6)
        clear hw6
        go_wp2_with fail
        refine (i21.out _).mono ?_
        rintro e w7 ⟨rfl, b7⟩
        have K7 := Lib.hid (K6.out.trans (b7.mono K6.out.size))
        clear b7
        go_wp2_with fail
        refine (i21.out _).mono ?_
        rintro e w8 ⟨rfl, b8⟩
        have K8 := Lib.hid (K7.out.trans (b8.mono K7.out.size))
        clear b8
        go_wp2_with fail
        refine (i3.out _).mono ?_
        rintro e w9 ⟨rfl, b9⟩
        have K9 := Lib.hid (K8.out.trans (b9.mono K8.out.size))
        clear b9
        go_wp2_with fail
        refine (i21.out _).mono ?_
        rintro e w10 ⟨rfl, b10⟩
        have K10 := Lib.hid (K9.out.trans (b10.mono K9.out.size))
        clear b10
        go_wp2_with fail
        refine (i3.out _).mono ?_
        rintro e w11 ⟨rfl, b11⟩
        have K11 := Lib.hid (K10.out.trans (b11.mono K10.out.size))
        clear b11
        go_wp2_with fail
        go_meet
        case rel => exact ⟨rfl, K11.out⟩
      · obtain ⟨z, rfl, rfl, rfl, z1, z2⟩ := hcs
        have f1 : ((NL : Int) == 0) = false := by rw [beq_eq_false_iff_ne]; have := hql.1 rfl; omega
        have f2 : (E == -1) = false := by rw [beq_eq_false_iff_ne]; rcases hE with ⟨h, _⟩ | ⟨_, h, _⟩; cases h; omega
        have f3 : s.toList.isEmpty = false := isEmpty_no z
        have glt2 : decide (x < 2 * y) = false := decide_eq_false (by omega)
        have gle2 : decide (x ≤ 2 * y) = true := decide_eq_true (by omega)
        have glt3 : decide (x < 3 * y) = true := decide_eq_true (by omega)
        clear hx hy hql hE z z1 z2
        go_wp2_with fail
        refine hri.out.mono ?_
        rintro e w6 ⟨rfl, d6, hw6⟩
        have K6 := Lib.hid (show Below w5.heap.size w5 w6 by rw [hw6]; exact below_drewN (Below.refl _ _) d6)
        clear hw6
        go_wp2_with fail
        refine (i21.out _).mono ?_
        rintro e w7 ⟨rfl, b7⟩
        have K7 := Lib.hid (K6.out.trans (b7.mono K6.out.size))
        clear b7
        go_wp2_with fail
        refine (i3.out _).mono ?_
        rintro e w8 ⟨rfl, b8⟩
        have K8 := Lib.hid (K7.out.trans (b8.mono K7.out.size))
        clear b8
        go_wp2_with fail
        refine (i21.out _).mono ?_
        rintro e w9 ⟨rfl, b9⟩
        have K9 := Lib.hid (K8.out.trans (b9.mono K8.out.size))
        clear b9
        go_wp2_with fail
        refine (i3.out _).mono ?_
        rintro e w10 ⟨rfl, b10⟩
        have K10 := Lib.hid (K9.out.trans (b10.mono K9.out.size))
        clear b10
        go_wp2_with fail
        go_meet
        case rel => exact ⟨rfl, K10.out⟩
      · obtain ⟨z, rfl, rfl, rfl, z1, z2⟩ := hcs
        have f1 : ((NL : Int) == 0) = false := by rw [beq_eq_false_iff_ne]; have := hql.1 rfl; omega
        have f2 : (E == -1) = false := by rw [beq_eq_false_iff_ne]; rcases hE with ⟨h, _⟩ | ⟨_, h, _⟩; cases h; omega
        have f3 : s.toList.isEmpty = false := isEmpty_no z
        have glt2 : decide (x < 2 * y) = false := decide_eq_false (by omega)
        have gle2 : decide (x ≤ 2 * y) = false := decide_eq_false (by omega)
        have glt3 : decide (x < 3 * y) = true := decide_eq_true (by omega)
        clear hx hy hql hE z z1 z2
        go_wp2_with fail
        refine hri.out.mono ?_
        rintro e w6 ⟨rfl, d6, hw6⟩
        have K6 := Lib.hid (show Below w5.heap.size w5 w6 by rw [hw6]; exact below_drewN (Below.refl _ _) d6)
        clear hw6
        go_wp2_with fail
        refine (i21.out _).mono ?_
        rintro e w7 ⟨rfl, b7⟩
        have K7 := Lib.hid (K6.out.trans (b7.mono K6.out.size))
        clear b7
        go_wp2_with fail
        refine (i21.out _).mono ?_
        rintro e w8 ⟨rfl, b8⟩
        have K8 := Lib.hid (K7.out.trans (b8.mono K7.out.size))
        clear b8
        go_wp2_with fail
        refine (i3.out _).mono ?_
        rintro e w9 ⟨rfl, b9⟩
        have K9 := Lib.hid (K8.out.trans (b9.mono K8.out.size))
        clear b9
        go_wp2_with fail
        go_meet
        case rel => exact ⟨rfl, K9.out⟩
      · obtain ⟨z, rfl, rfl, rfl, z1, z2⟩ := hcs
        have f1 : ((NL : Int) == 0) = false := by rw [beq_eq_false_iff_ne]; have := hql.1 rfl; omega
        have f2 : (E == -1) = false := by rw [beq_eq_false_iff_ne]; rcases hE with ⟨h, _⟩ | ⟨_, h, _⟩; cases h; omega
        have f3 : s.toList.isEmpty = false := isEmpty_no z
        have glt2 : decide (x < 2 * y) = false := decide_eq_false (by omega)
        have gle2 : decide (x ≤ 2 * y) = false := decide_eq_false (by omega)
        have glt3 : decide (x < 3 * y) = false := decide_eq_false (by omega)
        clear hx hy hql hE z z1 z2
        go_wp2_with fail
        refine hri.out.mono ?_
        rintro e w6 ⟨rfl, d6, hw6⟩
        have K6 := Lib.hid (show Below w5.heap.size w5 w6 by rw [hw6]; exact below_drewN (Below.refl _ _) d6)
        clear hw6
        go_wp2_with fail
        refine (i21.out _).mono ?_
        rintro e w7 ⟨rfl, b7⟩
        have K7 := Lib.hid (K6.out.trans (b7.mono K6.out.size))
        clear b7
        go_wp2_with fail
        refine (i21.out _).mono ?_
        rintro e w8 ⟨rfl, b8⟩
        have K8 := Lib.hid (K7.out.trans (b8.mono K7.out.size))
        clear b8
        go_wp2_with fail
        refine (i3.out _).mono ?_
        rintro e w9 ⟨rfl, b9⟩
        have K9 := Lib.hid (K8.out.trans (b9.mono K8.out.size))
        clear b9
        go_wp2_with fail
        go_meet
        case rel => exact ⟨rfl, K9.out⟩
    case rest =>
      obtain ⟨rfl, hbc⟩ := hcut
      have HB6 := Lib.hid (HB5.out.trans (hbc.mono HB5.out.size))
      have RL6 := Lib.hid (fun W (hW : Below wc.heap.size wc W) => (RL5.out.below hbc).below hW)
      clear hbc HB5 RL5
      go_wp2_with fail
      go_loopw [111] (fun z wr => ∃ k : Nat, z = .int .i64 (k : Int) ∧ k ≤ NL ∧ Below wc.heap.size wc wr) (fun z _ => NL - (intOf z).toNat)
      case atStart => exact ⟨0, rfl, by omega, Below.refl _ _⟩
      case round =>
        obtain ⟨k, rfl, hk, hbr⟩ := hrel
        by_cases hlk : k < NL
        · obtain ⟨v, hv⟩ : ∃ v, L[k]? = some v := ⟨_, List.getElem?_eq_getElem (by rw [← HNL.out]; exact hlk)⟩
          obtain ⟨g, hg, hca, hcell⟩ := rdS_cell (show RdS wr (.slice gl L.length cl) L by rw [← HNL.out]; exact RL6.out wr hbr) hv
          subst hg
          have cx := hcell k v hv
          rw [← HNL.out] at hca
          have hvm := List.mem_of_getElem? hv
          rw [hLe.out] at hvm
          obtain ⟨m, hm1, hvz, hveq, hvi⟩ := sq_part HSH.out hvm
          have hvs := size_inf hvi
          have hvw := word_inf HS.out hvi
          have b1 : (k : Int) < (NL : Int) := by omega
          have K1 := Lib.hid (HB6.out.trans (hbr.mono HB6.out.size))
          have hif := Lib.hid (fun d => isFactor_i s v mx (wr.drewN d) (HM.out _ (below_drewN K1.out d)) HS.out hvw)
          rw [contains_inf hvi] at hif
          have HBR := Lib.hid hbr
          have d1 : (v.size : Int).tdiv 2 = (m : Int) := by rw [Int.tdiv_eq_ediv_of_nonneg (by omega)]; omega
          have d2 : (v.size : Int).tmod 2 = 0 := by rw [Int.tmod_eq_emod_of_nonneg (by omega)]; omega
          have d3 : decide ((v.size : Int) < 2) = false := decide_eq_false (by omega)
          have d4 : IntKind.i64.wrap (m : Int) = (m : Int) := IntWalk.i64_in _ (by omega)
          have d5 : (m : Int) ≤ (v.size : Int) := by omega
          have d6 : m ≤ v.size := by omega
          have d7 : ((v.extract 0 m).toList != (v.extract m v.size).toList) = false := by rw [bne, hveq]; rfl
          have HVZ := Lib.hid hvz
          clear hcell hv hvm hvz hvi hvw hbr
          go_wp2_with fail
          go_quiet ((go_at_call 12; exact Calls.quiet_of_same ((hif.out _).mono fun e w' h => ⟨h.1, h.2.symm⟩)))
          go_wp2_with fail
          go_roundw
          case rel => exact ⟨k + 1, by go_num, by omega, below_drewN HBR.out _⟩
          case measure => simp [intOf] <;> omega
        · have b1 : decide ((k : Int) < (NL : Int)) = false := decide_eq_false (by omega)
          obtain ⟨wl, rfl⟩ : ∃ wl : World, wl = wr := ⟨_, rfl⟩
          have HB7 := Lib.hid (HB6.out.trans (hbr.mono HB6.out.size))
          have hfs := HFS.out
          obtain ⟨sq, hsq⟩ : ∃ sq : Bool, sq = !q2 := ⟨_, rfl⟩
          clear hbr HB6 RL6 HQL hLb HNL hLe
          go_upto_region 17 with fail

          go_cut [186] from 143 to 186 (fun z wx => z = .bool false ∧ Below w.heap.size w wx)
          case first =>
            rcases hfs with ⟨h1, h2⟩ | ⟨d, h, h1, h2, h3, h4, h5, h6, h7⟩
            · cases h1
              go_quiet (fail)
              go_wp2_with fail
              go_meet
              case rel => exact ⟨rfl, below_drewN HB7.out _⟩
            · cases h1
              obtain ⟨q, hq⟩ : ∃ q, q = 2 * h := ⟨_, rfl⟩
              obtain ⟨a, ha⟩ : ∃ a, a = d - 2 * h := ⟨_, rfl⟩
              obtain ⟨b, hb⟩ : ∃ b, b = d - h := ⟨_, rfl⟩
              obtain ⟨c, hc⟩ : ∃ c, c = d - 1 := ⟨_, rfl⟩
              rw [← ha, ← hb] at h6
              rw [← hc] at h7
              have hcz : (s.extract 0 c).size = c := by rw [ext_size s 0 c (by omega) (by omega)]; omega
              have hcw : wordL (s.extract 0 c).data.toList = true := word_inf HS.out (inf_ext.2 ⟨0, by omega, by rw [hcz, Nat.zero_add]⟩)
              have j2 := Lib.hid (fun W => isSquareFree_i (s.extract 0 c) W (by omega))
              rw [hcw, cB_false h7] at j2
              have f0 : (0 : Int) ≤ (d : Int) := by omega
              have f1 : decide ((s.size : Int) < (d : Int)) = false := decide_eq_false (by omega)
              have f2 : decide (s.size < d) = false := decide_eq_false (by omega)
              have f3 : decide ((h : Int) < 1) = false := decide_eq_false (by omega)
              have f4 : 2 * (h : Int) = (q : Int) := by omega
              have f5 : IntKind.i64.wrap (q : Int) = (q : Int) := IntWalk.i64_in _ (by omega)
              have f6 : decide ((d : Int) < (q : Int)) = false := decide_eq_false (by omega)
              have f7 : decide (d < q) = false := decide_eq_false (by omega)
              have f8 : (d : Int) - (q : Int) = (a : Int) := by omega
              have f9 : IntKind.i64.wrap (a : Int) = (a : Int) := IntWalk.i64_in _ (by omega)
              have f10 : (d : Int) - (h : Int) = (b : Int) := by omega
              have f11 : IntKind.i64.wrap (b : Int) = (b : Int) := IntWalk.i64_in _ (by omega)
              have f12 : (d : Int) - 1 = (c : Int) := by omega
              have f13 : IntKind.i64.wrap (c : Int) = (c : Int) := IntWalk.i64_in _ (by omega)
              have f14 : a ≤ b := by omega
              have f15 : b ≤ d := by omega
              have f16 : d ≤ s.size := h4
              have f17 : b ≤ s.size := by omega
              have f18 : c ≤ s.size := by omega
              have f19 : ((s.extract a b).toList != (s.extract b d).toList) = false := by rw [bne, h6]; rfl
              have f20 := h6
              clear hq ha hb hc hcz hcw h2 h3 h4 h5 h6 h7
              go_still_tail 40, (by kernel_rfl)
              change wpList _ _ _ _ _ wl.drew
              obtain ⟨wd, hwd⟩ : ∃ wd, wd = wl.drew := ⟨_, rfl⟩
              have KD := Lib.hid (show Below w.heap.size w wd by rw [hwd]; exact below_drewN HB7.out 1)
              rw [← hwd]
              clear hwd
              go_wp2_with fail
              refine (j2.out _).mono ?_
              rintro e wy ⟨rfl, by1⟩
              have KY := Lib.hid (KD.out.trans (by1.mono KD.out.size))
              clear by1
              go_wp2_with fail
              go_meet
              case rel => exact ⟨rfl, KY.out⟩
          case rest =>
            obtain ⟨rfl, hbc⟩ := hcut
            have HB8 := Lib.hid hbc
            clear hbc HB7 hfs
            obtain ⟨r, hr, hr1, hr2, hr3, hr4⟩ := long_facts HS.out
            have cl := Lib.hid (longestRun_i s wc (by omega))
            rw [hr] at cl
            have HR0 := Lib.hid hr2
            have HR3 := Lib.hid hr3
            have HR4 := Lib.hid hr4
            have hr16 : r ≤ 16 := by omega
            clear hr hr1 hr2 hr3 hr4 b1 hlk hk
            go_wp2_with fail
            refine cl.out.mono ?_
            rintro e w7 ⟨rfl, b7⟩
            have HB9 := Lib.hid (HB8.out.trans (b7.mono HB8.out.size))
            clear b7 cl HB8
            go_upto_region 20 with fail
            go_cut [212] from 189 to 212 (fun z wx => z = .bool false ∧ Below w.heap.size w wx)
            case first =>
              have g0 : decide ((r : Int) < 0) = false := decide_eq_false (by omega)
              rcases (show r = 0 ∨ r = 1 ∨ r = 2 ∨ 3 ≤ r by omega) with hr | hr | hr | hr
              · have g1 : decide ((1 : Int) < (r : Int)) = false := decide_eq_false (by omega)
                have g2 : ((r : Int) == 0) = true := by rw [beq_iff_eq]; omega
                have g3 : decide ((2 : Int) < (r : Int)) = false := decide_eq_false (by omega)
                have g4 : s.toList.isEmpty = true := (isEmpty_iff s).2 (HR0.out.1 hr)
                clear hr
                go_wp2_with fail
                go_meet
                case rel => exact ⟨rfl, HB9.out⟩
              · have g1 : decide ((1 : Int) < (r : Int)) = false := decide_eq_false (by omega)
                have g2 : ((r : Int) == 0) = false := by rw [beq_eq_false_iff_ne]; omega
                have g3 : decide ((2 : Int) < (r : Int)) = false := decide_eq_false (by omega)
                have g4 : s.toList.isEmpty = false := isEmpty_no (by have := HR0.out; omega)
                clear hr
                go_wp2_with fail
                go_meet
                case rel => exact ⟨rfl, HB9.out⟩
              · have g1 : decide ((1 : Int) < (r : Int)) = true := decide_eq_true (by omega)
                have g2 : ((r : Int) == 0) = false := by rw [beq_eq_false_iff_ne]; omega
                have g3 : decide ((2 : Int) < (r : Int)) = false := decide_eq_false (by omega)
                have g4 : s.toList.isEmpty = false := isEmpty_no (by have := HR0.out; omega)
                obtain rfl : q2 = true := by rw [← E2.out]; exact cB_true (HR3.out (by omega))
                clear hr
                go_wp2_with fail
                go_meet
                case rel => exact ⟨rfl, HB9.out⟩
              · have g1 : decide ((1 : Int) < (r : Int)) = true := decide_eq_true (by omega)
                have g2 : ((r : Int) == 0) = false := by rw [beq_eq_false_iff_ne]; omega
                have g3 : decide ((2 : Int) < (r : Int)) = true := decide_eq_true (by omega)
                have g4 : s.toList.isEmpty = false := isEmpty_no (by have := HR0.out; omega)
                obtain rfl : q2 = true := by rw [← E2.out]; exact cB_true (HR3.out (by omega))
                obtain rfl : q3 = true := by rw [← E3.out]; exact cB_true (HR4.out (by omega))
                clear hr
                go_wp2_with fail
                refine (i3.out _).mono ?_
                rintro e wy ⟨rfl, by1⟩
                have KY := Lib.hid (HB9.out.trans (by1.mono HB9.out.size))
                clear by1
                go_wp2_with fail
                go_meet
                case rel => exact ⟨rfl, KY.out⟩
            case rest =>
              obtain ⟨rfl, hbc⟩ := hcut
              have HB10 := Lib.hid hbc
              clear hbc HB9 HR0 HR3 HR4 i3 hr16
              have cx := Lib.hid (extendSquareFree_i s wc (by omega))
              obtain ⟨X, hX⟩ : ∃ X, X = exW s := ⟨_, rfl⟩
              have hex := ex_facts s
              rw [← hX] at cx hex
              clear hX
              go_wp2_with fail
              refine cx.out.mono ?_
              rintro e w8 ⟨rfl, b8⟩
              have HB11 := Lib.hid (HB10.out.trans (b8.mono HB10.out.size))
              clear b8 cx HB10
              go_upto_region 23 with fail
              go_cut [239] from 215 to 239 (fun z wx => z = .bool false ∧ Below w.heap.size w wx)
              case first =>
                rcases hex with hXe | ⟨h1, k, hXe, h2⟩
                · have g1 : X.toList.isEmpty = true := by rw [hXe]; exact (isEmpty_iff _).2 (by rw [St_size]; rfl)
                  clear hXe
                  go_wp2_with fail
                  go_meet
                  case rel => exact ⟨rfl, HB11.out⟩
                · obtain rfl : q2 = false := by
                    rw [← E2.out]
                    unfold sqB at h1
                    rw [HS.out, Bool.true_and] at h1
                    simpa using h1
                  have hsz := snoc_size s k
                  have hst := Lib.hid (fun W => starts_c (snoc s k) s W (by omega) ⟨[letU k], rfl⟩)
                  have hsq2 := Lib.hid (fun W => sq_i (snoc s k) W (by omega))
                  rw [h2] at hsq2
                  have g1 := isEmpty_no (s := snoc s k) (by omega)
                  rw [← hXe] at hst hsq2 g1 hsz
                  have g2 : (s.size : Int) + 1 = (X.size : Int) := by omega
                  have g3 : ((X.size : Int) != (X.size : Int)) = false := by simp
                  have g4 : IntKind.i64.wrap (X.size : Int) = (X.size : Int) := IntWalk.i64_in _ (by omega)
                  have HSZ := Lib.hid hsz
                  have hX17 : X.size ≤ 17 := by omega
                  clear hXe hsz h1 h2
                  go_wp2_with fail
                  refine (hst.out _).mono ?_
                  rintro e w' ⟨rfl, rfl⟩
                  go_wp2_with fail
                  refine (hsq2.out _).mono ?_
                  rintro e wy ⟨rfl, by1⟩
                  have KY := Lib.hid (HB11.out.trans (by1.mono HB11.out.size))
                  clear by1
                  go_wp2_with fail
                  go_meet
                  case rel => exact ⟨rfl, KY.out⟩
              case rest =>
                obtain ⟨rfl, hbc⟩ := hcut
                have HB12 := Lib.hid hbc
                clear hbc HB11 hex
                have cn := Lib.hid (named_thue mx wc (HM.out wc HB12.out))
                unfold sbV at cn
                go_wp2_with fail
                refine cn.out.mono ?_
                rintro e w9 ⟨ga, c, rfl, hrd, b9⟩
                have HB13 := Lib.hid (HB12.out.trans (b9.mono HB12.out.size))
                have HRD := Lib.hid hrd
                clear cn b9 hrd HB12
                go_upto_region 26 with fail
                obtain ⟨wb, hwb⟩ : ∃ wb, wb = w9.alloc (.cells #[.slice ga 2 c] 34) := ⟨_, rfl⟩
                have hbb : Below w9.heap.size w9 wb := by rw [hwb]; exact (Below.refl _ _).alloc (Nat.le_refl _) _
                have cb := box_cell w9 (.slice ga 2 c) 34
                have hszb : w9.heap.size < wb.heap.size := by rw [hwb]; simp
                rw [← hwb] at cb
                have CW := Lib.hid (fun W (hW : Below wb.heap.size wb W) => show W.cell? ⟨w9.heap.size, 0, none⟩ = some (.slice ga 2 c) by rw [hW.cell (p := ⟨w9.heap.size, 0, none⟩) hszb]; exact cb)
                have HBB := Lib.hid (HB13.out.trans (hbb.mono HB13.out.size))
                have RD := Lib.hid (fun W (hW : Below wb.heap.size wb W) => show RdSub W ga 2 c thueL from ⟨rfl, (HRD.out.below hbb).below hW⟩)
                have cm := Lib.hid (makeSize_c a0 len0 cap0 z0 30 0 60 wb.drew (HR.out _ (below_drewN HBB.out 1)) hlen (by omega) (by omega) (by omega) (by omega))
                have cf := Lib.hid (fun (m : Nat) W (hm : m ≤ 60) (hW : Below wb.heap.size wb W) => fixedPoint_i ga 2 c thueL m W (RD.out W hW) thue_gr (by omega))
                unfold sbV at cf
                rw [show St [letU 0] = (⟨#[97]⟩ : ByteArray) from rfl] at cf
                have HWB := Lib.hid hwb
                clear hwb hbb cb hszb HRD RD HB13
                go_wp2_with fail
                rw [← HWB.out]
                clear HWB
                go_cut [17, 18] from 244 to 250 (fun y z wx => ∃ m : Nat, m ≤ 60 ∧ y = .string (St (fxL thueL m)) ∧ z = .bool true ∧ Below w.heap.size w wx)
                case first =>
                  have KD : Hid (Below wb.heap.size wb wb.drew) := below_drewN (Below.refl _ _) 1
                  have c0 := CW.out wb (Below.refl _ _)
                  have cD := CW.out wb.drew KD.out
                  go_region_with (first | (go_at_call 18; refine cm.out.mono ?_; rintro e wM ⟨xm, rfl, hx0, hx1, bM⟩; obtain ⟨m, rfl⟩ : ∃ m : Nat, xm = (m : Int) := ⟨xm.toNat, by omega⟩; have KM := Lib.hid (KD.out.trans (bM.mono KD.out.size)); have cM := CW.out wM KM.out; clear bM) | (go_at_call 17; refine (cf.out m wM (by omega) KM.out).mono ?_; rintro e wF ⟨rfl, bF⟩; have KF := Lib.hid (KM.out.trans (bF.mono KM.out.size)); clear bF))
                  all_goals
                    go_wp2_with fail
                    go_meet
                    case rel => exact ⟨m, by omega, rfl, rfl, HBB.out.trans (KF.out.mono HBB.out.size)⟩
                case rest =>
                  obtain ⟨m1, hm1, rfl, rfl, hbc⟩ := hcut
                  have HB20 := Lib.hid hbc
                  have TV := Lib.hid (thue_val hm1)
                  obtain ⟨T1, hT1⟩ : ∃ T1, T1 = St (fxL thueL m1) := ⟨_, rfl⟩
                  have hT1z : T1.size ≤ 60 := by rw [hT1, St_size, (fxL_fix thue_gr m1).2]; exact hm1
                  have o1 := Lib.hid (fun W => isOverlapFree_i T1 W (by omega))
                  rw [hT1, TV.out, ← hT1] at o1
                  rw [← hT1]
                  clear hbc hT1 TV hm1 hT1z CW HBB cm cf
                  have cn := Lib.hid (named_sqf mx wc (HM.out wc HB20.out))
                  unfold sbV at cn
                  go_wp2_with fail
                  refine cn.out.mono ?_
                  rintro e w10 ⟨ga2, c2, rfl, hrd, b10⟩
                  have HB21 := Lib.hid (HB20.out.trans (b10.mono HB20.out.size))
                  have HRD2 := Lib.hid hrd
                  clear cn b10 hrd HB20
                  go_upto_region 28 with fail
                  obtain ⟨wb2, hwb⟩ : ∃ wb, wb = w10.alloc (.cells #[.slice ga2 3 c2] 34) := ⟨_, rfl⟩
                  have hbb : Below w10.heap.size w10 wb2 := by rw [hwb]; exact (Below.refl _ _).alloc (Nat.le_refl _) _
                  have cb := box_cell w10 (.slice ga2 3 c2) 34
                  have hszb : w10.heap.size < wb2.heap.size := by rw [hwb]; simp
                  rw [← hwb] at cb
                  have CW2 := Lib.hid (fun W (hW : Below wb2.heap.size wb2 W) => show W.cell? ⟨w10.heap.size, 0, none⟩ = some (.slice ga2 3 c2) by rw [hW.cell (p := ⟨w10.heap.size, 0, none⟩) hszb]; exact cb)
                  have HBB2 := Lib.hid (HB21.out.trans (hbb.mono HB21.out.size))
                  have RD2 := Lib.hid (fun W (hW : Below wb2.heap.size wb2 W) => show RdSub W ga2 3 c2 sqfL from ⟨rfl, (HRD2.out.below hbb).below hW⟩)
                  have cm2 := Lib.hid (makeSize_c a0 len0 cap0 z0 31 0 60 wb2.drew (HR.out _ (below_drewN HBB2.out 1)) hlen (by omega) (by omega) (by omega) (by omega))
                  have cf2 := Lib.hid (fun (m : Nat) W (hm : m ≤ 60) (hW : Below wb2.heap.size wb2 W) => fixedPoint_i ga2 3 c2 sqfL m W (RD2.out W hW) sqf_gr (by omega))
                  unfold sbV at cf2
                  rw [show St [letU 0] = (⟨#[97]⟩ : ByteArray) from rfl] at cf2
                  have HWB2 := Lib.hid hwb
                  clear hwb hbb cb hszb HRD2 RD2 HB21
                  go_wp2_with fail
                  rw [← HWB2.out]
                  clear HWB2
                  go_cut [21, 22] from 255 to 261 (fun y z wx => ∃ m : Nat, m ≤ 60 ∧ y = .string (St (fxL sqfL m)) ∧ z = .bool true ∧ Below w.heap.size w wx)
                  case first =>
                    have KD : Hid (Below wb2.heap.size wb2 wb2.drew) := below_drewN (Below.refl _ _) 1
                    have c0 := CW2.out wb2 (Below.refl _ _)
                    have cD := CW2.out wb2.drew KD.out
                    go_region_with (first | (go_at_call 18; refine cm2.out.mono ?_; rintro e wM ⟨xm, rfl, hx0, hx1, bM⟩; obtain ⟨m, rfl⟩ : ∃ m : Nat, xm = (m : Int) := ⟨xm.toNat, by omega⟩; have KM := Lib.hid (KD.out.trans (bM.mono KD.out.size)); have cM := CW2.out wM KM.out; clear bM) | (go_at_call 17; refine (cf2.out m wM (by omega) KM.out).mono ?_; rintro e wF ⟨rfl, bF⟩; have KF := Lib.hid (KM.out.trans (bF.mono KM.out.size)); clear bF))
                    all_goals
                      go_wp2_with fail
                      go_meet
                      case rel => exact ⟨m, by omega, rfl, rfl, HBB2.out.trans (KF.out.mono HBB2.out.size)⟩
                  case rest =>
                    obtain ⟨m2, hm2, rfl, rfl, hbc⟩ := hcut
                    have HB30 := Lib.hid hbc
                    have TV := Lib.hid (sqf_val hm2)
                    obtain ⟨T2, hT2⟩ : ∃ T2, T2 = St (fxL sqfL m2) := ⟨_, rfl⟩
                    have hT2z : T2.size ≤ 60 := by rw [hT2, St_size, (fxL_fix sqf_gr m2).2]; exact hm2
                    have o2 := Lib.hid (fun W => isSquareFree_i T2 W (by omega))
                    rw [hT2, TV.out, ← hT2] at o2
                    rw [← hT2]
                    clear hbc hT2 TV hm2 hT2z CW2 HBB2 cm2 cf2
                    have n1 := Lib.hid (fun W => countSquareFree_i 2 4 W)
                    have n2 := Lib.hid (fun W => countSquareFree_i 3 5 W)
                    have n3 := Lib.hid (fun W => countSquareFree_i 3 4 W)
                    rw [cs24] at n1
                    rw [cs35] at n2
                    rw [cs34] at n3
                    go_wp2_with fail
                    refine (o1.out _).mono ?_
                    rintro e v1 ⟨rfl, by1⟩
                    have K1 := Lib.hid (HB30.out.trans (by1.mono HB30.out.size))
                    clear by1
                    go_wp2_with fail
                    refine (o2.out _).mono ?_
                    rintro e v2 ⟨rfl, by1⟩
                    have K2 := Lib.hid (K1.out.trans (by1.mono K1.out.size))
                    clear by1
                    go_wp2_with fail
                    refine (n1.out _).mono ?_
                    rintro e v3 ⟨rfl, d3, hv3⟩
                    have K3 := Lib.hid (show Below w.heap.size w v3 by rw [hv3]; exact below_drewN K2.out d3)
                    clear hv3
                    go_wp2_with fail
                    refine (n2.out _).mono ?_
                    rintro e v4 ⟨rfl, d4, hv4⟩
                    have K4 := Lib.hid (show Below w.heap.size w v4 by rw [hv4]; exact below_drewN K3.out d4)
                    clear hv4
                    go_wp2_with fail
                    refine (n3.out _).mono ?_
                    rintro e v5 ⟨rfl, d5, hv5⟩
                    have K5 := Lib.hid (show Below w.heap.size w v5 by rw [hv5]; exact below_drewN K4.out d5)
                    clear hv5
                    go_wp2_with fail
                    go_ret
                    exact ⟨rfl, K5.out⟩
end Go.Proofs.YtlmciomoimfajaaDoor
