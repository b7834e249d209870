/- Contract of ConvergentsOf in the reference. Conditions: a row of numbers that can be read. -/
import Derived.Test.YtlmciomoimfajaaK4
namespace Go.Proofs.Ytlmciomoimfajaa
open Go.RowKit
set_option linter.unusedVariables false

theorem cvGo_take : ∀ (ks : List Int) (a b c d : Int) (l : List (Int × Int)) (j : Nat), cvGo a b c d ks = some l → cvGo a b c d (ks.take j) = some (l.take j)
  | [], a, b, c, d, l, j, h => by
    have : l = [] := by simpa [cvGo] using h.symm
    subst this; simp [cvGo]
  | k :: r, a, b, c, d, l, 0, h => by simp [cvGo]
  | k :: r, a, b, c, d, l, j + 1, h => by
    rw [List.take_succ_cons]
    unfold cvGo at h ⊢
    split at h
    · cases h
    · rename_i hc
      rw [if_neg hc]
      cases hr : cvGo c d (k * c + a) (k * d + b) r with
      | none => rw [hr] at h; cases h
      | some l2 =>
        rw [hr] at h
        have e := Option.some.inj h
        rw [cvGo_take r _ _ _ _ l2 j hr, ← e]; rfl
theorem cfAll_take : ∀ (ks : List Int) (i j : Nat), cfAll i ks = true → cfAll i (ks.take j) = true
  | [], i, j, h => by simp [cfAll]
  | k :: r, i, 0, h => by simp [cfAll]
  | k :: r, i, j + 1, h => by
    simp only [cfAll, Bool.and_eq_true] at h
    rw [List.take_succ_cons]
    simp only [cfAll, Bool.and_eq_true]
    exact ⟨h.1, cfAll_take r (i + 1) j h.2⟩
theorem cvGo_same : ∀ (ks : List Int) (a b c d : Int) (l : List (Int × Int)), cvGo a b c d ks = some l → l.length = ks.length
  | [], _, _, _, _, l, h => by have : l = [] := by simpa [cvGo] using h.symm
                               subst this; rfl
  | k :: r, a, b, c, d, l, h => by
    unfold cvGo at h
    split at h
    · cases h
    · cases hr : cvGo c d (k * c + a) (k * d + b) r with
      | none => rw [hr] at h; cases h
      | some l2 =>
        rw [hr] at h
        have e := Option.some.inj h
        rw [← e, List.length_cons, cvGo_same r _ _ _ _ l2 hr]; rfl
/-- the i-th convergent is the fraction of the first i + 1 quotients -/
theorem fr_take {ks : List Int} (h : frB ks = true) {i : Nat} (hi : i < ks.length) : cvD ks ≠ [] ∧ (cvD ks).length = ks.length ∧ (cvD ks)[i]? = some (frP (ks.take (i + 1))) := by
  have h1 : cvD ks ≠ [] := by unfold frB at h; exact of_decide_eq_true h
  have hok : cfOk ks = true := by
    cases hc : cfOk ks
    · exact absurd (cvD_no hc) h1
    · rfl
  cases hr : cvGo 0 1 1 0 ks with
  | none => exact absurd (by rw [cvD_yes hok, hr]; rfl) h1
  | some l =>
    have hD : cvD ks = l := by rw [cvD_yes hok, hr]; rfl
    have hlen := cvGo_same ks _ _ _ _ l hr
    refine ⟨h1, by rw [hD]; exact hlen, ?_⟩
    have hok2 := hok
    unfold cfOk at hok2
    rw [Bool.and_eq_true] at hok2
    have hl := inB_iff.1 hok2.1
    have htl : (ks.take (i + 1)).length = i + 1 := by rw [List.length_take]; omega
    have hokt : cfOk (ks.take (i + 1)) = true := by
      unfold cfOk
      rw [Bool.and_eq_true]
      exact ⟨inB_iff.2 (by rw [htl]; omega), cfAll_take ks 0 _ hok2.2⟩
    have hDt : cvD (ks.take (i + 1)) = l.take (i + 1) := by rw [cvD_yes hokt, cvGo_take ks _ _ _ _ l (i + 1) hr]; rfl
    have h2 := last_at (ps := l.take (i + 1)) (by rw [List.length_take]; omega)
    unfold frP
    rw [hDt, hD, ← h2, List.length_take, List.getElem?_take, if_pos (by omega)]
    congr 1; omega

theorem frB_short {ks : List Int} (h : frB ks = true) : ks.length ≤ 20 := by
  have h1 : cvD ks ≠ [] := by unfold frB at h; exact of_decide_eq_true h
  cases hc : cfOk ks
  · exact absurd (cvD_no hc) h1
  · unfold cfOk at hc
    rw [Bool.and_eq_true] at hc
    have := inB_iff.1 hc.1
    omega
set_option maxRecDepth 20000 in
set_option maxHeartbeats 4000000 in
theorem convergentsOf_s (v : Value) (ks : List Int) (w : World) (hrd : RdI w v ks) (hl : ks.length ≤ 1048576) :
    Calls Try.prog 42 #[v] w fun e w' => ∃ u, e = .returned u ∧ OwnR w' w.heap.size u (cvD ks) ∧ Below w.heap.size w w' := by
  have h1 := Lib.hid (fractionOf_s v ks w hrd hl)
  have HRD := Lib.hid hrd
  obtain ⟨ga, cc, rfl, hcell⟩ := rdI_shapeK hrd
  have HC := Lib.hid hcell
  clear hrd hcell
  cases hb : frB ks
  · have hD : Hid (cvD ks = []) := by unfold Hid; unfold frB at hb; exact Decidable.of_not_not (of_decide_eq_false hb)
    rw [hb] at h1
    clear hb
    go_enter Try.func42, Try.ntmps42
    go_wp2_with fail
    refine h1.out.mono ?_
    rintro e w' ⟨rfl, rfl⟩
    go_wp2_with fail
    go_ret
    exact ⟨_, rfl, by rw [hD.out]; exact ownR_nil _ _, Below.refl _ _⟩
  · have HF := Lib.hid (fun i (hi : i < ks.length) => fr_take hb hi)
    have hne : cvD ks ≠ [] := by unfold frB at hb; exact of_decide_eq_true hb
    have hlen2 := cvD_len ks
    have h20 := frB_short hb
    have hk0 : 1 ≤ ks.length := by
      have := List.length_pos_iff.2 hne; omega
    have hdl : (cvD ks).length = ks.length := (fr_take hb (show 0 < ks.length by omega)).2.1
    rw [hb] at h1
    obtain ⟨D, hD⟩ : ∃ D, D = cvD ks := ⟨_, rfl⟩
    rw [← hD] at HF hdl ⊢
    obtain ⟨N, hN⟩ : ∃ N, N = ks.length := ⟨_, rfl⟩
    have HN := Lib.hid hN
    have HDL := Lib.hid hdl
    rw [← hN] at hl hk0 h1 h20 ⊢
    have hst0 := Lib.hid (ownR_empty w (Nat.le_refl _))
    have HRD2 : Hid (RdI w (.slice ga N cc) ks) := by have := HRD.out; rw [← hN] at this; exact this
    clear hb hne hlen2 hdl hD hN HRD
    go_enter Try.func42, Try.ntmps42
    go_wp2_with fail
    refine h1.out.mono ?_
    rintro e w' ⟨rfl, rfl⟩
    go_wp2_with fail
    go_loopw [6, 22] (fun o z wr => ∃ (k : Nat) (u : Value), u = o ∧ z = .int .i64 k ∧ k ≤ N ∧ Hid (OwnR wr w.heap.size u (D.take k)) ∧ Below w.heap.size w wr) (fun _ z _ => N - (intOf z).toNat)
    case atStart => exact ⟨0, _, rfl, rfl, by omega, hst0, (Below.refl _ _).alloc (Nat.le_refl _) _⟩
    case round =>
      obtain ⟨k, u, rfl, rfl, hk, hown, hbw⟩ := hrel
      have hsz := hbw.size
      by_cases hlk : k < N
      · obtain ⟨x, hx⟩ : ∃ x, ks[k]? = some x := ⟨_, List.getElem?_eq_getElem (by rw [← HN.out]; exact hlk)⟩
        obtain ⟨g, rfl, cx0, hcap⟩ := HC.out k x hx
        rw [← HN.out] at hcap
        have hft := (HF.out k (by rw [← HN.out]; exact hlk)).2.2
        have htl : (ks.take (k + 1)).length = k + 1 := by rw [List.length_take, ← HN.out]; omega
        have hrdp : RdI wr (.slice (some ⟨g, 0, none⟩) (k + 1) cc) (ks.take (k + 1)) := by
          refine .inr ⟨g, cc, by rw [htl], by omega, fun j y hj => ?_⟩
          rw [List.getElem?_take] at hj
          split at hj
          · obtain ⟨g2, e2, c2, _⟩ := HC.out j y hj
            cases e2
            rw [hbw.cell (p := ⟨g, j, none⟩) (World.block_lt_of_cell? w _ c2)]; exact c2
          · cases hj
        have hq := Lib.hid (fractionOf_s (.slice (some ⟨g, 0, none⟩) (k + 1) cc) (ks.take (k + 1)) wr hrdp (by rw [htl]; omega))
        have hnx : Hid (D.take (k + 1) = D.take k ++ [((frP (ks.take (k + 1))).1, (frP (ks.take (k + 1))).2)]) := by
          unfold Hid
          have hkd := (List.getElem?_eq_some_iff.1 hft).1
          rw [List.take_succ_eq_append_getElem hkd, (List.getElem?_eq_some_iff.1 hft).2]
        obtain ⟨P, hP⟩ : ∃ P, P = frP (ks.take (k + 1)) := ⟨_, rfl⟩
        rw [← hP] at hq hnx
        have htk : (D.take k).length ≤ k := by rw [List.length_take]; omega
        have hkb : k ≤ 1048576 := by omega
        have b1 : (k : Int) < (N : Int) := by omega
        have b2 : 0 ≤ (k : Int) + 1 := by omega
        have b3 : (k : Int) + 1 ≤ (cc : Int) := by omega
        have e1 : IntKind.i64.wrap ((k : Int) + 1) = (k : Int) + 1 := IntWalk.i64_in _ (by omega)
        have e2 : ((k : Int) + 1).toNat = k + 1 := by omega
        clear hx cx0 hft htl hrdp hP
        go_wp2_with fail
        refine hq.out.mono ?_
        rintro e w2 ⟨rfl, rfl⟩
        go_wp2_with (at_builtin; refine appR rfl _ _ rfl w.heap.size _ (D.take k) rfl (by exact hown.out) _ _ rfl (by omega) (by exact hsz) ?_; intro v2 w2 hown2 hg2)
        go_roundw
        case rel => exact ⟨k + 1, v2, rfl, by go_num, by omega, by rw [hnx.out]; exact hown2, below_appR hbw hown.out hg2 hsz⟩
        case measure => simp [intOf] <;> omega
      · obtain rfl : k = N := by omega
        have hfin : Hid (D.take k = D) := List.take_of_length_le (by rw [HDL.out, ← HN.out]; exact Nat.le_refl _)
        go_wp2
        go_ret
        exact ⟨_, rfl, by rw [← hfin.out]; exact hown.out, hbw⟩
end Go.Proofs.Ytlmciomoimfajaa
