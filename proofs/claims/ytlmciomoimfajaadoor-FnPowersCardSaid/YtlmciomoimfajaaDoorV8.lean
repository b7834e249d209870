/- Contracts of the laws' l02Draw and MakeWord: a word of the first three letters, of at most 'most' letters. Conditions: the code's bytes can be read. -/
import Derived.Test.YtlmciomoimfajaaDoorV7
import Derived.Deep.QuietTactic
import Derived.BigQuiet
namespace Go.Proofs.YtlmciomoimfajaaDoor
open Go.RowKit
set_option linter.unusedVariables false

theorem letL_ext {k : Nat} {s : ByteArray} (h : letL k s.data.toList) (i j : Nat) : letL k (s.extract i j).data.toList := fun c hc => by
  rw [ext_data] at hc
  exact h c (List.mem_of_mem_drop (List.mem_of_mem_take hc))
theorem letL_app {k : Nat} {s t : ByteArray} (h : letL k s.data.toList) (h2 : letL k t.data.toList) : letL k (s ++ t).data.toList := fun c hc => by
  rw [ByteArray.data_append, Array.toList_append] at hc
  rcases List.mem_append.1 hc with hc | hc
  · exact h c hc
  · exact h2 c hc
theorem letL_mono {k m : Nat} {l : List UInt8} (h : letL k l) (hk : k ≤ m) : letL m l := fun c hc => by have := h c hc; omega
theorem letL_ab : letL 3 (⟨#[97, 98]⟩ : ByteArray).data.toList := by
  intro c hc
  have : c = 97 ∨ c = 98 := by simpa using hc
  rcases this with rfl | rfl <;> decide

def szOf : Value → Nat
  | .string t => t.size
  | _ => 0
set_option maxRecDepth 20000 in
set_option maxHeartbeats 4000000 in
theorem l02Draw_c (B g : Nat) (a : Option Addr) (len cap : Nat) (zs : List Int) (most : Nat) (w : World) (h : CurAt w B g a len cap zs) (hl : len ≤ 1048576) (hm : most ≤ 200) :
    Calls Tryd.prog 20 #[.pointer (some ⟨g, 0, none⟩), .int .i64 (most : Int)] w fun e w' => ∃ s : ByteArray, e = .returned (.string s) ∧ s.size ≤ most ∧ letL 3 s.data.toList ∧ Below B w w' := by
  have hge := h.ge
  have hB0 : B ≤ w.heap.size := by omega
  have hD := fun (n : Nat) W (hc : CurAt W B g a len cap zs) (h1 : n ≤ 256) (h2 : 1 ≤ n) => Lib.hid (l01Below_c B g a len cap zs n W hc hl h1 h2)
  have hO := fun (n : Nat) W (hc : CurAt W B g a len cap zs) (h1 : n ≤ 256) (h2 : 1 ≤ n) => Lib.hid (l01Once_c B g a len cap zs n W hc hl h1 h2)
  have hW := fun (n k : Nat) W (hc : CurAt W B g a len cap zs) (h1 : n ≤ 1000) (h2 : k ≤ 4) (h3 : 1 ≤ k) => Lib.hid (l02Word_c B g a len cap zs n k W hc hl h1 h2 h3)
  have c1 := hD 3 w h (by omega) (by omega)
  clear h
  go_enter Tryd.func20, Tryd.ntmps20
  go_wp2_with fail
  refine c1.out.mono ?_
  rintro e w1 ⟨x, rfl, hx, hc1, hg1⟩
  have HB1 := Lib.hid (cur_below hg1 hge.1 hB0)
  obtain ⟨k, hk⟩ : ∃ k : Nat, k = 1 + x := ⟨_, rfl⟩
  have hki : (1 : Int) + (x : Int) = (k : Int) := by omega
  obtain ⟨m1, hm1⟩ : ∃ m1 : Nat, m1 = most + 1 := ⟨_, rfl⟩
  have hmi : (most : Int) + 1 = (m1 : Int) := by omega
  have ek : IntKind.i64.wrap (k : Int) = (k : Int) := IntWalk.i64_in _ (by omega)
  have em : IntKind.i64.wrap (m1 : Int) = (m1 : Int) := IntWalk.i64_in _ (by omega)
  have hk3 : k ≤ 3 := by omega
  have hk1 : 1 ≤ k := by omega
  have c2 := hD m1 w1 hc1 (by omega) (by omega)
  have hmm : m1 ≤ most + 1 := by omega
  clear hk hm1 c1 hc1 hg1 hx
  go_wp2_with fail
  refine c2.out.mono ?_
  rintro e w2 ⟨y, rfl, hy, hc2, hg2⟩
  have HB2 := Lib.hid (HB1.out.trans (Below.mono (cur_below hg2 hge.1 (Nat.le_trans hB0 HB1.out.size)) (Nat.le_refl _)))
  have c3 := hW y k w2 hc2 (by omega) (by omega) hk1
  have hym : y ≤ most := by omega
  clear c2 hc2 hg2 hy
  go_wp2_with fail
  refine c3.out.mono ?_
  rintro e w3 ⟨s, rfl, hs, hlet, hc3, hb3⟩
  have HB3 := Lib.hid (HB2.out.trans hb3)
  have HLET := Lib.hid (letL_mono hlet hk3)
  have c4 := hO 4 w3 hc3 (by omega) (by omega)
  have hsm : s.size ≤ most := by omega
  clear c3 hb3 hlet hc3
  go_wp2_with fail
  refine c4.out.mono ?_
  rintro e w4 ⟨b, rfl, hc4, hg4⟩
  have HB4 := Lib.hid (HB3.out.trans (cur_below hg4 hge.1 (Nat.le_trans hB0 HB3.out.size)))
  have c5 := hO 6
  by_cases hb : b = true
  · subst hb
    by_cases h1 : 1 < s.size
    · obtain ⟨q, hq⟩ : ∃ q : Nat, q = s.size / 2 := ⟨_, rfl⟩
      have q1 : (s.size : Int).tdiv 2 = (q : Int) := by rw [hq, Int.tdiv_eq_ediv_of_nonneg (by omega)]; exact (Int.natCast_ediv _ _).symm
      have q2 : (s.size : Int) / 2 = (q : Int) := by rw [hq]; exact (Int.natCast_ediv _ _).symm
      have q3 : q ≤ s.size := by omega
      have j1 : (q : Int) ≤ (s.size : Int) := by omega
      have j0 : IntKind.i64.wrap (q : Int) = (q : Int) := IntWalk.i64_in _ (by omega)
      have zq : (s.extract 0 q).size = q := by rw [ext_size s 0 q q3 (Nat.zero_le _)]; omega
      have zz : (s.extract 0 q ++ s.extract 0 q).size = q + q := by rw [ByteArray.size_append, zq]
      have hqy : q = y / 2 := by omega
      have HU : Hid (letL 3 (s.extract 0 (y / 2) ++ s.extract 0 (y / 2)).data.toList) := letL_app (letL_ext HLET.out _ _) (letL_ext HLET.out _ _)
      have HUS : Hid ((s.extract 0 (y / 2) ++ s.extract 0 (y / 2)).size ≤ most) := by unfold Hid; rw [← hqy]; omega
      have d1 : decide ((1 : Int) < (s.size : Int)) = true := decide_eq_true (by omega)
      have C5 := Lib.hid (fun d => c5 (w4.drewN d) hc4 (by omega) (by omega))
      have HBD := Lib.hid (fun d => below_drewN HB4.out d)
      clear hq hqy c5 hD hO hW hc4 hg4 c4
      go_wp2_with fail
      go_quiet (fail)
      go_wp2_with fail
      refine (C5.out _).out.mono ?_
      have HBX := Lib.hid (HBD.out nq)
      rintro e w5 ⟨b2, rfl, hc5, hg5⟩
      have HB5 := Lib.hid (HBX.out.trans (cur_below hg5 hge.1 (Nat.le_trans hB0 HBX.out.size)))
      clear hc5 hg5
      cases b2
      · go_wp2_with fail
        go_ret
        exact ⟨_, rfl, HUS.out, HU.out, HB5.out⟩
      · go_wp2_with fail
        go_loop [7] (fun z => ∃ t : ByteArray, z = .string t ∧ Hid (letL 3 t.data.toList) ∧ 2 ≤ t.size ∧ t.size ≤ 1000) (fun z => most - szOf z)
        case atStart => exact ⟨_, rfl, letL_ab, by decide, by decide⟩
        case round =>
          obtain ⟨t, rfl, ht, ht2, ht3⟩ := hrel
          by_cases hlt : t.size < most
          · obtain ⟨r, hr⟩ : ∃ r : Nat, r = t.size / 2 := ⟨_, rfl⟩
            have r1 : (t.size : Int).tdiv 2 = (r : Int) := by rw [hr, Int.tdiv_eq_ediv_of_nonneg (by omega)]; exact (Int.natCast_ediv _ _).symm
            have r2 : (t.size : Int) / 2 = (r : Int) := by rw [hr]; exact (Int.natCast_ediv _ _).symm
            have r3 : r + 1 ≤ t.size := by omega
            have i1 : (r : Int) + 1 ≤ (t.size : Int) := by omega
            have i2 : 0 ≤ (r : Int) + 1 := by omega
            have e1 : IntKind.i64.wrap ((r : Int) + 1) = (r : Int) + 1 := IntWalk.i64_in _ (by omega)
            have e0 : IntKind.i64.wrap (r : Int) = (r : Int) := IntWalk.i64_in _ (by omega)
            have e2 : ((r : Int) + 1).toNat = r + 1 := by omega
            have zx : (t.extract 0 (r + 1)).size = r + 1 := by rw [ext_size t 0 (r + 1) r3 (by omega)]; omega
            have zy : (t ++ t.extract 0 (r + 1)).size = t.size + (r + 1) := by rw [ByteArray.size_append, zx]
            have HT2 : Hid (letL 3 (t ++ t.extract 0 (r + 1)).data.toList) := letL_app ht.out (letL_ext ht.out _ _)
            have b1 : (t.size : Int) < (most : Int) := by omega
            clear hr
            go_wp2
            go_round
            case rel => exact ⟨_, rfl, HT2, by omega, by omega⟩
            case measure => simp [szOf]; omega
          · have b1 : decide ((t.size : Int) < (most : Int)) = false := decide_eq_false (by omega)
            have HE1 := Lib.hid (letL_ext ht.out 0 t.size)
            have HE2 := Lib.hid (letL_ext ht.out 0 most)
            have z1 : Hid (t.size ≤ most → (t.extract 0 t.size).size ≤ most) := fun h => by rw [ext_size t 0 t.size (Nat.le_refl _) (Nat.zero_le _)]; omega
            have z2 : Hid ((t.extract 0 most).size ≤ most) := by unfold Hid; rw [ext_size t 0 most (by omega) (Nat.zero_le _)]; omega
            go_wp2
            all_goals
              go_ret
              first
                | exact ⟨_, rfl, z2.out, HE2.out, HB5.out⟩
                | exact ⟨_, rfl, by omega, ht.out, HB5.out⟩
                | exact ⟨_, rfl, z1.out (by omega), HE1.out, HB5.out⟩
    · have d1 : decide ((1 : Int) < (s.size : Int)) = false := decide_eq_false (by omega)
      have HU := HLET
      have HUS := Lib.hid hsm
      have HBX := HB4
      have C5 := c5 w4 hc4 (by omega) (by omega)
      clear c5 hD hO hW hc4 hg4 c4
      go_wp2_with fail
      refine C5.out.mono ?_
      rintro e w5 ⟨b2, rfl, hc5, hg5⟩
      have HB5 := Lib.hid (HBX.out.trans (cur_below hg5 hge.1 (Nat.le_trans hB0 HBX.out.size)))
      clear hc5 hg5
      cases b2
      · go_wp2_with fail
        go_ret
        exact ⟨_, rfl, HUS.out, HU.out, HB5.out⟩
      · go_wp2_with fail
        go_loop [7] (fun z => ∃ t : ByteArray, z = .string t ∧ Hid (letL 3 t.data.toList) ∧ 2 ≤ t.size ∧ t.size ≤ 1000) (fun z => most - szOf z)
        case atStart => exact ⟨_, rfl, letL_ab, by decide, by decide⟩
        case round =>
          obtain ⟨t, rfl, ht, ht2, ht3⟩ := hrel
          by_cases hlt : t.size < most
          · obtain ⟨r, hr⟩ : ∃ r : Nat, r = t.size / 2 := ⟨_, rfl⟩
            have r1 : (t.size : Int).tdiv 2 = (r : Int) := by rw [hr, Int.tdiv_eq_ediv_of_nonneg (by omega)]; exact (Int.natCast_ediv _ _).symm
            have r2 : (t.size : Int) / 2 = (r : Int) := by rw [hr]; exact (Int.natCast_ediv _ _).symm
            have r3 : r + 1 ≤ t.size := by omega
            have i1 : (r : Int) + 1 ≤ (t.size : Int) := by omega
            have i2 : 0 ≤ (r : Int) + 1 := by omega
            have e1 : IntKind.i64.wrap ((r : Int) + 1) = (r : Int) + 1 := IntWalk.i64_in _ (by omega)
            have e0 : IntKind.i64.wrap (r : Int) = (r : Int) := IntWalk.i64_in _ (by omega)
            have e2 : ((r : Int) + 1).toNat = r + 1 := by omega
            have zx : (t.extract 0 (r + 1)).size = r + 1 := by rw [ext_size t 0 (r + 1) r3 (by omega)]; omega
            have zy : (t ++ t.extract 0 (r + 1)).size = t.size + (r + 1) := by rw [ByteArray.size_append, zx]
            have HT2 : Hid (letL 3 (t ++ t.extract 0 (r + 1)).data.toList) := letL_app ht.out (letL_ext ht.out _ _)
            have b1 : (t.size : Int) < (most : Int) := by omega
            clear hr
            go_wp2
            go_round
            case rel => exact ⟨_, rfl, HT2, by omega, by omega⟩
            case measure => simp [szOf]; omega
          · have b1 : decide ((t.size : Int) < (most : Int)) = false := decide_eq_false (by omega)
            have HE1 := Lib.hid (letL_ext ht.out 0 t.size)
            have HE2 := Lib.hid (letL_ext ht.out 0 most)
            have z1 : Hid (t.size ≤ most → (t.extract 0 t.size).size ≤ most) := fun h => by rw [ext_size t 0 t.size (Nat.le_refl _) (Nat.zero_le _)]; omega
            have z2 : Hid ((t.extract 0 most).size ≤ most) := by unfold Hid; rw [ext_size t 0 most (by omega) (Nat.zero_le _)]; omega
            go_wp2
            all_goals
              go_ret
              first
                | exact ⟨_, rfl, z2.out, HE2.out, HB5.out⟩
                | exact ⟨_, rfl, by omega, ht.out, HB5.out⟩
                | exact ⟨_, rfl, z1.out (by omega), HE1.out, HB5.out⟩
  · have hb2 : b = false := by simpa using hb
    subst hb2
    have HU := HLET
    have HUS := Lib.hid hsm
    have HBX := HB4
    have C5 := c5 w4 hc4 (by omega) (by omega)
    clear c5 hD hO hW hc4 hg4 c4 hb
    go_wp2_with fail
    refine C5.out.mono ?_
    rintro e w5 ⟨b2, rfl, hc5, hg5⟩
    have HB5 := Lib.hid (HBX.out.trans (cur_below hg5 hge.1 (Nat.le_trans hB0 HBX.out.size)))
    clear hc5 hg5
    cases b2
    · go_wp2_with fail
      go_ret
      exact ⟨_, rfl, HUS.out, HU.out, HB5.out⟩
    · go_wp2_with fail
      go_loop [7] (fun z => ∃ t : ByteArray, z = .string t ∧ Hid (letL 3 t.data.toList) ∧ 2 ≤ t.size ∧ t.size ≤ 1000) (fun z => most - szOf z)
      case atStart => exact ⟨_, rfl, letL_ab, by decide, by decide⟩
      case round =>
        obtain ⟨t, rfl, ht, ht2, ht3⟩ := hrel
        by_cases hlt : t.size < most
        · obtain ⟨r, hr⟩ : ∃ r : Nat, r = t.size / 2 := ⟨_, rfl⟩
          have r1 : (t.size : Int).tdiv 2 = (r : Int) := by rw [hr, Int.tdiv_eq_ediv_of_nonneg (by omega)]; exact (Int.natCast_ediv _ _).symm
          have r2 : (t.size : Int) / 2 = (r : Int) := by rw [hr]; exact (Int.natCast_ediv _ _).symm
          have r3 : r + 1 ≤ t.size := by omega
          have i1 : (r : Int) + 1 ≤ (t.size : Int) := by omega
          have i2 : 0 ≤ (r : Int) + 1 := by omega
          have e1 : IntKind.i64.wrap ((r : Int) + 1) = (r : Int) + 1 := IntWalk.i64_in _ (by omega)
          have e0 : IntKind.i64.wrap (r : Int) = (r : Int) := IntWalk.i64_in _ (by omega)
          have e2 : ((r : Int) + 1).toNat = r + 1 := by omega
          have zx : (t.extract 0 (r + 1)).size = r + 1 := by rw [ext_size t 0 (r + 1) r3 (by omega)]; omega
          have zy : (t ++ t.extract 0 (r + 1)).size = t.size + (r + 1) := by rw [ByteArray.size_append, zx]
          have HT2 : Hid (letL 3 (t ++ t.extract 0 (r + 1)).data.toList) := letL_app ht.out (letL_ext ht.out _ _)
          have b1 : (t.size : Int) < (most : Int) := by omega
          clear hr
          go_wp2
          go_round
          case rel => exact ⟨_, rfl, HT2, by omega, by omega⟩
          case measure => simp [szOf]; omega
        · have b1 : decide ((t.size : Int) < (most : Int)) = false := decide_eq_false (by omega)
          have HE1 := Lib.hid (letL_ext ht.out 0 t.size)
          have HE2 := Lib.hid (letL_ext ht.out 0 most)
          have z1 : Hid (t.size ≤ most → (t.extract 0 t.size).size ≤ most) := fun h => by rw [ext_size t 0 t.size (Nat.le_refl _) (Nat.zero_le _)]; omega
          have z2 : Hid ((t.extract 0 most).size ≤ most) := by unfold Hid; rw [ext_size t 0 most (by omega) (Nat.zero_le _)]; omega
          go_wp2
          all_goals
            go_ret
            first
              | exact ⟨_, rfl, z2.out, HE2.out, HB5.out⟩
              | exact ⟨_, rfl, by omega, ht.out, HB5.out⟩
              | exact ⟨_, rfl, z1.out (by omega), HE1.out, HB5.out⟩

theorem makeWord_c (a : Option Addr) (len cap : Nat) (zs : List Int) (n most : Nat) (w : World) (h : IsRow .u8 w a len cap zs) (hl : len ≤ 1048576) (hn : n ≤ 1000000) (hm : most ≤ 200) :
    Calls Tryd.prog 4 #[.slice a len cap, .int .i64 (n : Int), .int .i64 (most : Int)] w fun e w' => ∃ s : ByteArray, e = .returned (.string s) ∧ s.size ≤ most ∧ letL 3 s.data.toList ∧ Below w.heap.size w w' := by
  have h1 := Lib.hid (l31New_c a len cap zs n w h hl hn)
  have h2 := fun W (hc : CurAt W w.heap.size w.heap.size a len cap zs) => Lib.hid (l02Draw_c w.heap.size w.heap.size a len cap zs most W hc hl hm)
  clear h
  go_enter Tryd.func4, Tryd.ntmps4
  go_wp2_with fail
  refine h1.out.mono ?_
  rintro e w1 ⟨rfl, hc, hb⟩
  have hq := h2 w1 hc
  clear hc h2
  go_wp2_with fail
  refine hq.out.mono ?_
  rintro e w2 ⟨s, rfl, hs, hlet, hb2⟩
  have HL := Lib.hid hlet
  clear hlet
  go_wp2_with fail
  go_ret
  exact ⟨s, rfl, hs, HL.out, hb.trans hb2⟩
end Go.Proofs.YtlmciomoimfajaaDoor
