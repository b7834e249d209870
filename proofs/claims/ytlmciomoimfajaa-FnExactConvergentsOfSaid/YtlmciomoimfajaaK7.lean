/- Contracts of eqIntSS, markIntSS, heldIntSS of the laws at rows of pairs. Conditions: short rows that the call owns. -/
import Derived.Test.YtlmciomoimfajaaK4
namespace Go.Proofs.Ytlmciomoimfajaa
open Go.RowKit
set_option linter.unusedVariables false

theorem ownR_low {w w' : World} {B : Nat} {v : Value} {ps : List (Int × Int)} (h : OwnR w B v ps) (hb : Below w.heap.size w w') : OwnR w' B v ps := by
  obtain ⟨gs, hnd, hl, ho, hc⟩ := h
  refine ⟨gs, hnd, hl, own_below ho hb, fun i g p h1 h2 => ?_⟩
  obtain ⟨h3, h4⟩ := hc i g p h1 h2
  refine ⟨?_, h4⟩
  rw [hb.block g (Array.getElem?_eq_some_iff.1 h3).1]; exact h3
theorem pair_rd {w : World} {g : Nat} {a b : Int} (h1 : w.cell? ⟨g, 0, none⟩ = some (.int .i64 a)) (h2 : w.cell? ⟨g, 1, none⟩ = some (.int .i64 b)) : RdI w (.slice (some ⟨g, 0, none⟩) 2 2) [a, b] := by
  refine .inr ⟨g, 2, rfl, Nat.le_refl _, fun j x hj => ?_⟩
  match j with
  | 0 => simp at hj; subst hj; exact h1
  | 1 => simp at hj; subst hj; exact h2
  | j + 2 => simp at hj
set_option maxHeartbeats 2000000 in
theorem eqIntSS_c (u v : Value) (D : List (Int × Int)) (B B' : Nat) (w : World) (hu : OwnR w B u D) (hv : OwnR w B' v D) (hl : D.length ≤ 1048576) :
    Calls Try.prog 44 #[u, v] w fun e w' => e = .returned (.bool true) ∧ ∃ d, w' = w.drewN d := by
  obtain ⟨gu, cu, rfl, hcu⟩ := ownR_shape hu
  obtain ⟨gv, cv, rfl, hcv⟩ := ownR_shape hv
  have HU := Lib.hid hcu
  have HV := Lib.hid hcv
  obtain ⟨N, hN⟩ : ∃ N, N = D.length := ⟨_, rfl⟩
  have HN := Lib.hid hN
  rw [← hN] at hl ⊢
  clear hu hv hcu hcv hN
  have hne : ((N : Int) != (N : Int)) = false := by simp
  go_enter Try.func44, Try.ntmps44
  go_wp2
  go_loopw [5] (fun z wr => ∃ k d : Nat, z = .int .i64 k ∧ k ≤ N ∧ wr = w.drewN d) (fun z _ => N - (intOf z).toNat)
  case atStart => exact ⟨0, 0, rfl, by omega, rfl⟩
  case round =>
    obtain ⟨k, d, rfl, hk, rfl⟩ := hrel
    by_cases hlk : k < N
    · obtain ⟨p, hp⟩ : ∃ p, D[k]? = some p := ⟨_, List.getElem?_eq_getElem (by rw [← HN.out]; exact hlk)⟩
      obtain ⟨g1, i1, rfl, hc1, x1, x2, x3⟩ := HU.out k p hp
      obtain ⟨g2, i2, rfl, hc2, y1, y2, y3⟩ := HV.out k p hp
      rw [← HN.out] at hc1 hc2
      have b1 : (k : Int) < (N : Int) := by omega
      obtain ⟨W, hW⟩ : ∃ W, W = w.drewN d := ⟨_, rfl⟩
      have hE : ∀ n, Calls Try.prog 41 #[.slice (some ⟨i1, 0, none⟩) 2 2, .slice (some ⟨i2, 0, none⟩) 2 2] (W.drewN n) fun e w' => e = .returned (.bool true) ∧ ∃ m, w' = (W.drewN n).drewN m := fun n => by
        have := eqIntS_c (.slice (some ⟨i1, 0, none⟩) 2 2) (.slice (some ⟨i2, 0, none⟩) 2 2) [p.1, p.2] [p.1, p.2] (W.drewN n) (by rw [hW]; exact pair_rd x2 x3) (by rw [hW]; exact pair_rd y2 y3) (by simp) (by simp)
        rw [decide_eq_true rfl] at this; exact this
      have HE := Lib.hid hE
      have x1' : W.cell? ⟨g1, k, none⟩ = some (.slice (some ⟨i1, 0, none⟩) 2 2) := by rw [hW]; exact x1
      have y1' : W.cell? ⟨g2, k, none⟩ = some (.slice (some ⟨i2, 0, none⟩) 2 2) := by rw [hW]; exact y1
      have HW := Lib.hid hW
      rw [← hW]
      clear hE hp x1 y1 x2 x3 y2 y3 hW
      go_wp2
      go_quiet ((go_at_call 41; exact Calls.quiet_of (HE.out _)))
      go_wp2
      go_roundw
      case rel => exact ⟨k + 1, _, by go_num, by omega, by rw [HW.out, World.drewN_drewN]⟩
      case measure => simp [intOf] <;> omega
    · go_wp2
      go_ret
      exact ⟨rfl, d, rfl⟩

/-- the marks m, m + 1; m + 2, m + 3; .. *)-/
def mkP (m n : Nat) : List (Int × Int) := (List.range n).map fun j => (((m + 2 * j : Nat) : Int), ((m + 2 * j + 1 : Nat) : Int))
theorem mkP_len (m n : Nat) : (mkP m n).length = n := by simp [mkP]
theorem mkP_get {m n k : Nat} (h : k < n) : (mkP m n)[k]? = some (((m + 2 * k : Nat) : Int), ((m + 2 * k + 1 : Nat) : Int)) := by simp [mkP, h]
def mrP (m : Nat) (D : List (Int × Int)) (k : Nat) : List (Int × Int) := mkP m k ++ D.drop k
theorem mrP_len (m : Nat) (D : List (Int × Int)) (k : Nat) (h : k ≤ D.length) : (mrP m D k).length = D.length := by simp [mrP, mkP_len]; omega
theorem mrP_end (m : Nat) (D : List (Int × Int)) : mrP m D D.length = mkP m D.length := by simp [mrP]
theorem mrP_get (m : Nat) (D : List (Int × Int)) (k : Nat) (h : k < D.length) : (mrP m D k)[k]? = D[k]? := by
  unfold mrP; rw [List.getElem?_append_right (by rw [mkP_len]; exact Nat.le_refl _), mkP_len, Nat.sub_self, List.getElem?_drop]; rfl
theorem mrP_next (m : Nat) (D : List (Int × Int)) (k i : Nat) (h : k < D.length) (hi : i ≠ k) : (mrP m D (k + 1))[i]? = (mrP m D k)[i]? := by
  unfold mrP
  rcases Nat.lt_or_ge i k with c | c
  · rw [List.getElem?_append_left (by rw [mkP_len]; omega), List.getElem?_append_left (by rw [mkP_len]; omega), mkP_get (by omega), mkP_get c]
  · rw [List.getElem?_append_right (by rw [mkP_len]; omega), List.getElem?_append_right (by rw [mkP_len]; omega), mkP_len, mkP_len, List.getElem?_drop, List.getElem?_drop]
    congr 1; omega
theorem mrP_here (m : Nat) (D : List (Int × Int)) (k : Nat) : (mrP m D (k + 1))[k]? = some (((m + 2 * k : Nat) : Int), ((m + 2 * k + 1 : Nat) : Int)) := by
  unfold mrP; rw [List.getElem?_append_left (by rw [mkP_len]; omega), mkP_get (by omega)]
theorem iota_two (m : Nat) : iota m 2 = [((m : Nat) : Int), ((m + 1 : Nat) : Int)] := by simp [iota, List.range_succ]
/-- one inner row is marked -/
theorem ownR_mark {w w' : World} {B m k : Nat} {v : Value} {D : List (Int × Int)} (hk : k < D.length) (h : OwnR w B v (mrP m D k)) :
    ∃ gi, (∃ ga cc, v = .slice ga D.length cc ∧ ∃ g, ga = some ⟨g, 0, none⟩ ∧ D.length ≤ cc ∧ w.cell? ⟨g, k, none⟩ = some (.slice (some ⟨gi, 0, none⟩) 2 2)) ∧ B ≤ gi ∧ (∃ l, OwnI w B (.slice (some ⟨gi, 0, none⟩) 2 2) l ∧ l.length = 2) ∧
      (OwnI w' B (.slice (some ⟨gi, 0, none⟩) 2 2) (iota (m + 2 * k) 2) → w.grownBy w' (some gi) → OwnR w' B v (mrP m D (k + 1))) := by
  have hl1 := mrP_len m D k (by omega)
  have hl2 := mrP_len m D (k + 1) (by omega)
  obtain ⟨ga, cc, hv, hcell⟩ := ownR_shape h
  obtain ⟨gs, hnd, hl, ho, hc⟩ := h
  have hgk : gs[k]? = some (gs[k]'(by omega)) := List.getElem?_eq_getElem (by omega)
  obtain ⟨gi, hgi⟩ : ∃ gi, gi = gs[k]'(by omega) := ⟨_, rfl⟩
  rw [← hgi] at hgk
  have hDk : (mrP m D k)[k]? = some (D[k]) := by rw [mrP_get m D k hk, List.getElem?_eq_getElem hk]
  obtain ⟨h3, h4⟩ := hc k gi _ hgk hDk
  refine ⟨gi, ?_, h4, ⟨[D[k].1, D[k].2], ⟨rfl, .inr ⟨gi, 2, _, rfl, h4, h3, Nat.le_refl _, by unfold maxLen; omega, rfl, rfl⟩⟩, rfl⟩, fun hm hg => ?_⟩
  · rw [hl1] at hv
    obtain ⟨g, g2, e1, e2, e3, _⟩ := hcell k _ hDk
    refine ⟨ga, cc, hv, g, e1, by rw [← hl1]; exact e2, ?_⟩
    have hcx := World.ownsRow.cellAt (h := by subst e1; rw [hl1] at ho; rw [hv] at ho; exact ho) k (by omega)
    rw [hcx, List.getElem?_map, hgk]; rfl
  · have hap := ownR_apart (cur := []) ho h3
    refine ⟨gs, hnd, by rw [hl2, ← hl1]; exact hl, ?_, fun i g p h1 h2 => ?_⟩
    · rw [hl2, ← hl1]
      refine ho.kept hg ?_
      cases hvb : v.ownBlock with
      | none => exact .inl rfl
      | some g => exact .inr fun e => hap (by rw [hvb, e])
    · by_cases hik : i = k
      · subst hik
        rw [hgk] at h1
        cases h1
        rw [mrP_here] at h2
        cases h2
        refine ⟨?_, h4⟩
        rw [iota_two] at hm
        rcases hm.2 with ⟨h0, _⟩ | ⟨g', cap', cur, hv', _, hb', _, _, hs', ht'⟩
        · cases h0
        · cases hv'
          have e5 : cur = #[.int .i64 ((m + 2 * i : Nat) : Int), .int .i64 ((m + 2 * i + 1 : Nat) : Int)] := by
            apply Array.toList_inj.1
            have e6 : cur.toList.take 2 = cur.toList := List.take_of_length_le (by rw [Array.length_toList, hs']; exact Nat.le_refl _)
            have e7 : cur.toList.take (2 * 1) = _ := ht'
            rw [Nat.mul_one, e6] at e7
            exact e7
          rw [hb', e5]
      · rw [mrP_next m D k i hk hik] at h2
        obtain ⟨a3, a4⟩ := hc i g p h1 h2
        refine ⟨?_, a4⟩
        rw [hg.block g (Array.getElem?_eq_some_iff.1 a3).1 (fun e => hik ?_)]
        · exact a3
        · have e1 := Option.some.inj e
          have hi1 := (List.getElem?_eq_some_iff.1 h1)
          have hk1 := (List.getElem?_eq_some_iff.1 hgk)
          have hp := List.pairwise_iff_getElem.1 hnd
          rcases Nat.lt_trichotomy i k with c | c | c
          · exact absurd (by rw [hi1.2, hk1.2, e1]) (hp i k hi1.1 hk1.1 c)
          · exact c
          · exact absurd (by rw [hi1.2, hk1.2, e1]) (hp k i hk1.1 hi1.1 c)

set_option maxHeartbeats 2000000 in
theorem markIntSS_c (v : Value) (D : List (Int × Int)) (m B : Nat) (w : World) (h : OwnR w B v D) (hB : B ≤ w.heap.size) (hl : D.length ≤ 1000000) (hm : m ≤ 1000000) :
    Calls Try.prog 46 #[v, .int .i64 (m : Int)] w fun e w' => e = .returned (.int .i64 ((m + 2 * D.length : Nat) : Int)) ∧ OwnR w' B v (mkP m D.length) ∧ Below B w w' := by
  obtain ⟨ga, cc, rfl, _⟩ := ownR_shape h
  have hst : Hid (OwnR w B (.slice ga D.length cc) (mrP m D 0)) := by unfold Hid mrP mkP; simpa using h
  obtain ⟨N, hN⟩ : ∃ N, N = D.length := ⟨_, rfl⟩
  have HN := Lib.hid hN
  rw [← hN] at hst hl ⊢
  clear h hN
  go_enter Try.func46, Try.ntmps46
  go_wp2
  go_loopw [1, 5] (fun s z wr => ∃ k : Nat, s = .int .i64 ((m + 2 * k : Nat) : Int) ∧ z = .int .i64 k ∧ k ≤ N ∧ Hid (OwnR wr B (.slice ga N cc) (mrP m D k)) ∧ Below B w wr) (fun _ z _ => N - (intOf z).toNat)
  case atStart => exact ⟨0, by simp, rfl, by omega, hst, Below.refl _ _⟩
  case round =>
    obtain ⟨k, rfl, rfl, hk, hown, hbw⟩ := hrel
    have hsz := hbw.size
    by_cases hlk : k < N
    · obtain ⟨gi, ⟨ga2, cc2, hv, g, rfl, hcap, cx⟩, hBg, ⟨l, hol, hl2⟩, hnext⟩ := ownR_mark (w' := w) (by rw [← HN.out]; exact hlk) hown.out
      have hv2 : ga = some ⟨g, 0, none⟩ ∧ cc = cc2 := by cases hv; exact ⟨rfl, rfl⟩
      obtain ⟨rfl, rfl⟩ := hv2
      rw [← HN.out] at hcap
      have hmk := Lib.hid (markIntS_c (.slice (some ⟨gi, 0, none⟩) 2 2) l (m + 2 * k) B wr hol (by omega) (by omega))
      rw [hl2] at hmk
      obtain ⟨y, hy⟩ : ∃ y : Nat, y = m + 2 * k := ⟨_, rfl⟩
      have HY := Lib.hid hy
      rw [← hy] at hmk ⊢
      have hyb : y ≤ 3000000 := by omega
      have b1 : (k : Int) < (N : Int) := by omega
      clear hnext hv hol hl2 hy
      go_wp2_with fail
      refine hmk.out.mono ?_
      rintro e w2 ⟨rfl, ho2, hg2⟩
      have HO2 : Hid (OwnR w2 B (.slice (some ⟨g, 0, none⟩) N cc) (mrP m D (k + 1))) := by
        obtain ⟨gi2, ⟨ga3, cc3, hv3, g3, hga3, _, cx3⟩, _, _, hnext⟩ := ownR_mark (w' := w2) (by rw [← HN.out]; exact hlk) hown.out
        cases hv3
        cases hga3
        rw [cx] at cx3
        cases cx3
        refine hnext ?_ hg2
        rw [← HY.out]; exact ho2
      have HB2 : Hid (Below B w w2) := hbw.grown hg2 (Nat.le_trans hB hsz) (fun q hq => by cases hq; exact hBg)
      clear ho2 hg2
      go_wp2_with fail
      go_roundw
      case rel => exact ⟨k + 1, by have := HY.out; go_num, by go_num, by omega, HO2, HB2.out⟩
      case measure => simp [intOf] <;> omega
    · obtain rfl : k = N := by omega
      have hfin : Hid (OwnR wr B (.slice ga k cc) (mkP m k)) := by
        have := hown.out
        have e := mrP_end m D
        rw [← HN.out] at e
        rw [e] at this; exact this
      go_wp2
      go_ret
      exact ⟨ret_int (by omega), hfin.out, hbw⟩
set_option maxHeartbeats 2000000 in
theorem heldIntSS_c (v : Value) (m n B : Nat) (w : World) (h : OwnR w B v (mkP m n)) (hl : n ≤ 1000000) (hm : m ≤ 1000000) :
    Calls Try.prog 47 #[v, .int .i64 (m : Int)] w fun e w' => e = .returned (.int .i64 ((m + 2 * n : Nat) : Int)) ∧ w = w' := by
  obtain ⟨ga, cc, rfl, hcell⟩ := ownR_shape h
  rw [mkP_len] at hcell ⊢
  have HC := Lib.hid hcell
  clear h hcell
  go_enter Try.func47, Try.ntmps47
  go_wp2
  go_loop [1, 5] (fun s z => ∃ k : Nat, s = .int .i64 ((m + 2 * k : Nat) : Int) ∧ z = .int .i64 k ∧ k ≤ n) (fun _ z => n - (intOf z).toNat)
  case atStart => exact ⟨0, by simp, rfl, by omega⟩
  case round =>
    obtain ⟨k, rfl, rfl, hk⟩ := hrel
    by_cases hlk : k < n
    · obtain ⟨g, gi, rfl, hcap, cx, c0, c1⟩ := HC.out k _ (mkP_get hlk)
      have hrd : RdI w (.slice (some ⟨gi, 0, none⟩) 2 2) (iota (m + 2 * k) 2) := by rw [iota_two]; exact pair_rd c0 c1
      have hh := Lib.hid (heldIntS_c (.slice (some ⟨gi, 0, none⟩) 2 2) (m + 2 * k) 2 w hrd (by omega) (by omega))
      obtain ⟨y, hy⟩ : ∃ y : Nat, y = m + 2 * k := ⟨_, rfl⟩
      have HY := Lib.hid hy
      rw [← hy] at hh ⊢
      have hyb : y ≤ 3000000 := by omega
      have b1 : (k : Int) < (n : Int) := by omega
      have b2 : decide (((y + 2 : Nat) : Int) < 0) = false := decide_eq_false (by omega)
      clear hrd c0 c1 hy
      go_wp2_with fail
      refine hh.out.mono ?_
      rintro e w2 ⟨rfl, rfl⟩
      go_wp2_with fail
      go_round
      case rel => exact ⟨k + 1, by have := HY.out; go_num, by go_num, by omega⟩
      case measure => simp [intOf] <;> omega
    · obtain rfl : k = n := by omega
      go_wp2
      go_ret
      exact ⟨ret_int (by omega), rfl⟩
end Go.Proofs.Ytlmciomoimfajaa
