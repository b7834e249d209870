/- Contracts of ConvergentsOf and FractionOf in the program, of FractionOf in the reference. Conditions: a row of numbers that can be read. -/
import Derived.Test.YtlmciomoimfajaaK3
import Derived.Deep.QuietTactic
import Derived.BigQuiet
namespace Go.Proofs.Ytlmciomoimfajaa
open Go.RowKit
set_option linter.unusedVariables false

def cvD (ks : List Int) : List (Int × Int) := (cvW ks).getD []
theorem cvD_yes {ks : List Int} (h : cfOk ks = true) : cvD ks = (cvGo 0 1 1 0 ks).getD [] := by unfold cvD cvW; rw [if_pos h]
theorem cvD_no {ks : List Int} (h : cfOk ks = false) : cvD ks = [] := by unfold cvD cvW; rw [if_neg (by rw [h]; decide)]; rfl

theorem cvGo_len : ∀ (ks : List Int) (a b c d : Int), ((cvGo a b c d ks).getD []).length ≤ ks.length
  | [], _, _, _, _ => by simp [cvGo]
  | k :: r, a, b, c, d => by
    have ih := cvGo_len r c d (k * c + a) (k * d + b)
    unfold cvGo
    split
    · simp
    · cases h : cvGo c d (k * c + a) (k * d + b) r with
      | none => simp
      | some l => rw [h] at ih; simp at ih ⊢; omega
theorem cvD_len (ks : List Int) : (cvD ks).length ≤ ks.length := by
  cases h : cfOk ks
  · rw [cvD_no h]; simp
  · rw [cvD_yes h]; exact cvGo_len _ _ _ _ _
set_option maxHeartbeats 1000000 in
theorem convergentsOf_i (v : Value) (ks : List Int) (w : World) (hrd : RdI w v ks) (hl : ks.length ≤ 1048576) :
    Calls Try.prog 43 #[v] w fun e w' => ∃ u, e = .returned u ∧ OwnR w' w.heap.size u (cvD ks) ∧ Below w.heap.size w w' := by
  have h1 := Lib.hid (areQuotients_c v ks w hrd hl)
  have HRD := Lib.hid hrd
  obtain ⟨ga, cc, rfl, _⟩ := rdI_shapeK hrd
  clear hrd
  cases hok : cfOk ks
  · have hr := Lib.hid (cvD_no hok)
    rw [hok] at h1
    go_enter Try.func43, Try.ntmps43
    go_wp2_with fail
    refine h1.out.mono ?_
    rintro e w' ⟨rfl, rfl⟩
    go_wp2_with fail
    go_ret
    exact ⟨_, rfl, by rw [hr.out]; exact ownR_nil _ _, Below.refl _ _⟩
  · have hr := Lib.hid (cvD_yes hok)
    have h2 := Lib.hid (convergents_c _ ks w HRD.out hok)
    rw [hok] at h1
    obtain ⟨R, hR⟩ : ∃ R, R = cvGo 0 1 1 0 ks := ⟨_, rfl⟩
    rw [← hR] at h2 hr
    clear hR hok
    cases R with
    | none =>
      go_enter Try.func43, Try.ntmps43
      go_wp2_with fail
      refine h1.out.mono ?_
      rintro e w' ⟨rfl, rfl⟩
      go_wp2_with fail
      refine h2.out.mono ?_
      rintro e w1 ⟨u, rfl, ho, hb⟩
      go_wp2_with fail
      go_ret
      exact ⟨_, rfl, by rw [hr.out]; exact ownR_nil _ _, hb⟩
    | some l =>
      go_enter Try.func43, Try.ntmps43
      go_wp2_with fail
      refine h1.out.mono ?_
      rintro e w' ⟨rfl, rfl⟩
      go_wp2_with fail
      refine h2.out.mono ?_
      rintro e w1 ⟨u, rfl, ho, hb⟩
      have HO := Lib.hid ho
      clear ho
      go_wp2_with fail
      go_ret
      exact ⟨_, rfl, by rw [hr.out]; exact HO.out, hb⟩

/-- the last convergent -/
def frP (ks : List Int) : Int × Int := (cvD ks).getLastD (0, 0)
def frB (ks : List Int) : Bool := decide (cvD ks ≠ [])
theorem ownR_shape {w : World} {B : Nat} {v : Value} {ps : List (Int × Int)} (h : OwnR w B v ps) : ∃ ga cc, v = .slice ga ps.length cc ∧ ∀ (i : Nat) p, ps[i]? = some p → ∃ g gi, ga = some ⟨g, 0, none⟩ ∧ ps.length ≤ cc ∧ w.cell? ⟨g, i, none⟩ = some (.slice (some ⟨gi, 0, none⟩) 2 2) ∧ w.cell? ⟨gi, 0, none⟩ = some (.int .i64 p.1) ∧ w.cell? ⟨gi, 1, none⟩ = some (.int .i64 p.2) := by
  obtain ⟨gs, _, hl, ho, hc⟩ := h
  rcases ho.2 with ⟨rfl, h0⟩ | ⟨g, cap, cur, rfl, hb, hg, hnc, _⟩
  · exact ⟨none, 0, by rw [h0], fun i p hp => by have := (List.getElem?_eq_some_iff.1 hp).1; omega⟩
  · refine ⟨_, cap, rfl, fun i p hp => ?_⟩
    have hi := (List.getElem?_eq_some_iff.1 hp).1
    have hgi : gs[i]? = some (gs[i]'(by omega)) := List.getElem?_eq_getElem (by omega)
    obtain ⟨h1, h2⟩ := hc i _ p hgi hp
    refine ⟨g, gs[i]'(by omega), rfl, hnc, ?_, ?_, ?_⟩
    · have := World.ownsRow.cellAt (h := ho) i (by omega)
      rw [this, List.getElem?_map, hgi]; rfl
    · unfold World.cell?; rw [h1]; rfl
    · unfold World.cell?; rw [h1]; rfl
theorem last_at {ps : List (Int × Int)} (h : 0 < ps.length) : ps[ps.length - 1]? = some (ps.getLastD (0, 0)) := by
  cases ps with
  | nil => simp at h
  | cons a l => rw [List.getLastD_eq_getLast?, ← List.getLast?_eq_getElem?, List.getLast?_eq_some_getLast (by simp)]; rfl
theorem ret_fr {a b c d : Int} {x y : Bool} (h1 : a = b) (h2 : c = d) (h3 : x = y) : Ending.returned (.tuple #[.int .i64 a, .int .i64 c, .bool x]) = .returned (.tuple #[.int .i64 b, .int .i64 d, .bool y]) := by rw [h1, h2, h3]

set_option maxHeartbeats 1000000 in
theorem fractionOf_i (v : Value) (ks : List Int) (w : World) (hrd : RdI w v ks) (hl : ks.length ≤ 1048576) :
    Calls Try.prog 40 #[v] w fun e w' => e = .returned (.tuple #[.int .i64 (frP ks).1, .int .i64 (frP ks).2, .bool (frB ks)]) ∧ Below w.heap.size w w' := by
  have h1 := Lib.hid (convergentsOf_i v ks w hrd hl)
  obtain ⟨ga, cc, rfl, _⟩ := rdI_shapeK hrd
  clear hrd
  have hfp : Hid (frP ks = (cvD ks).getLastD (0, 0)) := rfl
  have hfb : Hid (frB ks = decide (cvD ks ≠ [])) := rfl
  have hdl : (cvD ks).length ≤ 1048576 := Nat.le_trans (cvD_len ks) hl
  obtain ⟨D, hD⟩ : ∃ D, D = cvD ks := ⟨_, rfl⟩
  rw [← hD] at h1 hfp hfb hdl
  clear hD
  go_enter Try.func40, Try.ntmps40
  go_wp2_with fail
  refine h1.out.mono ?_
  rintro e w1 ⟨u, rfl, ho, hb⟩
  obtain ⟨gu, cu, rfl, hcell⟩ := ownR_shape ho
  have HC := Lib.hid hcell
  clear ho hcell
  by_cases h0 : D.length = 0
  · have hn : D = [] := List.eq_nil_of_length_eq_zero h0
    have hfin : Hid (frP ks = (0, 0) ∧ frB ks = false) := by rw [hfp.out, hfb.out, hn]; exact ⟨rfl, rfl⟩
    rw [h0]
    clear hn h0
    go_wp2_with fail
    go_ret3
    exact ⟨ret_fr (by rw [hfin.out.1]) (by rw [hfin.out.1]) hfin.out.2.symm, hb⟩
  · obtain ⟨P, hP⟩ : ∃ P, P = D.getLastD (0, 0) := ⟨_, rfl⟩
    obtain ⟨g, gi, rfl, hcc, c1, c2, c3⟩ := HC.out (D.length - 1) P (by rw [hP]; exact last_at (by omega))
    have hfin : Hid (frP ks = P ∧ frB ks = true) := by
      rw [hfp.out, hfb.out]
      exact ⟨hP.symm, decide_eq_true (by intro e; rw [e] at h0; exact h0 rfl)⟩
    obtain ⟨N, hN⟩ : ∃ N, N = D.length := ⟨_, rfl⟩
    rw [← hN] at h0 hcc c1 hdl ⊢
    clear hP hN
    have hb1 : ((N : Int) == 0) = false := by simp; omega
    have b0 : 0 ≤ (N : Int) - 1 := by omega
    have b2 : (N : Int) - 1 < (N : Int) := by omega
    have b3 : (1 : Int) ≤ (N : Int) := by omega
    have e1 : IntKind.i64.wrap ((N : Int) - 1) = (N : Int) - 1 := IntWalk.i64_in _ (by omega)
    have e2 : ((N : Int) - 1).toNat = N - 1 := by omega
    go_wp2_with fail
    go_quiet (fail)
    go_wp2_with fail
    go_ret3
    exact ⟨ret_fr (by rw [hfin.out.1]) (by rw [hfin.out.1]) hfin.out.2.symm, below_drewN hb _⟩

set_option maxRecDepth 20000 in
set_option maxHeartbeats 4000000 in
theorem fractionOf_s (v : Value) (ks : List Int) (w : World) (hrd : RdI w v ks) (hl0 : ks.length ≤ 1048576) :
    Calls Try.prog 38 #[v] w fun e w' => e = .returned (.tuple #[.int .i64 (frP ks).1, .int .i64 (frP ks).2, .bool (frB ks)]) ∧ w = w' := by
  have h1 := Lib.hid (l12Quotients_c v ks w hrd hl0)
  obtain ⟨ga, cc, rfl, hcell⟩ := rdI_shapeK hrd
  have HC := Lib.hid hcell
  clear hrd hcell
  cases hok : cfOk ks
  · have hfin : Hid (frP ks = (0, 0) ∧ frB ks = false) := by unfold frP frB; rw [cvD_no hok]; exact ⟨rfl, rfl⟩
    rw [hok] at h1
    go_enter Try.func38, Try.ntmps38
    go_wp2_with fail
    refine h1.out.mono ?_
    rintro e w' ⟨rfl, rfl⟩
    go_wp2_with fail
    go_ret3
    exact ⟨ret_fr (by rw [hfin.out.1]) (by rw [hfin.out.1]) hfin.out.2.symm, rfl⟩
  · have hok2 := hok
    unfold cfOk at hok2
    rw [Bool.and_eq_true] at hok2
    have hl := inB_iff.1 hok2.1
    have hK : ∀ (i : Nat) (k : Int), ks[i]? = some k → 0 ≤ k ∧ k ≤ 1000 := by
      intro i k h
      have h1 := cfAll_at hok2.2 h
      have h2 := mnI_pos (0 + i)
      omega
    have HK := Lib.hid hK
    have hD := cvD_yes hok
    have hfp : frP ks = (cvD ks).getLastD (0, 0) := rfl
    have hfb : frB ks = decide (cvD ks ≠ []) := rfl
    rw [hD] at hfp hfb
    obtain ⟨R, hR⟩ : ∃ R, R = cvGo 0 1 1 0 ks := ⟨_, rfl⟩
    rw [← hR] at hfp hfb
    have HFP := Lib.hid hfp
    have HFB := Lib.hid hfb
    have hst : Hid ((cvGo 0 1 1 0 (ks.drop 0)).map ([] ++ ·) = R) := by unfold Hid; rw [hR, List.drop_zero]; cases cvGo 0 1 1 0 ks <;> rfl
    rw [hok] at h1
    obtain ⟨N, hN⟩ : ∃ N, N = ks.length := ⟨_, rfl⟩
    have HN := Lib.hid hN
    rw [← hN] at hl h1 ⊢
    clear hok hok2 hK hD hfp hfb hR hN hl0
    go_enter Try.func38, Try.ntmps38
    go_wp2_with fail
    refine h1.out.mono ?_
    rintro e w' ⟨rfl, rfl⟩
    go_wp2_with fail
    go_loop [5, 6, 7, 8, 18] (fun sc sd sa sb z => ∃ (k : Nat) (acc : List (Int × Int)) (a b c d : Int), sa = .int .i64 a ∧ sb = .int .i64 b ∧ sc = .int .i64 c ∧ sd = .int .i64 d ∧ z = .int .i64 k ∧ k ≤ N ∧ acc.length = k ∧ 0 ≤ a ∧ a ≤ 1000000000 ∧ 0 ≤ b ∧ b ≤ 1000000000 ∧ 0 ≤ c ∧ c ≤ 1000000000 ∧ 0 ≤ d ∧ d ≤ 1000000000 ∧ Hid ((cvGo a b c d (ks.drop k)).map (acc ++ ·) = R) ∧ Hid (k = 0 ∨ acc.getLastD (0, 0) = (c, d))) (fun _ _ _ _ z => N - (intOf z).toNat)
    case atStart => exact ⟨0, [], 0, 1, 1, 0, rfl, rfl, rfl, rfl, rfl, by omega, rfl, by omega, by omega, by omega, by omega, by omega, by omega, by omega, by omega, hst, .inl rfl⟩
    case round =>
      obtain ⟨k, acc, a, b, c, d, rfl, rfl, rfl, rfl, rfl, hk, hal, ha0, ha1, hb0, hb1, hc0, hc1, hd0, hd1, hg, hlast⟩ := hrel
      by_cases hlk : k < N
      · obtain ⟨x, hx⟩ : ∃ x, ks[k]? = some x := ⟨_, List.getElem?_eq_getElem (by rw [← HN.out]; exact hlk)⟩
        obtain ⟨g, rfl, cx, hcap⟩ := HC.out k x hx
        rw [← HN.out] at hcap
        obtain ⟨hx0, hx1⟩ := HK.out k x hx
        have hdr := Lib.hid (drop_at hx)
        have hm1 := mul_bd hx0 hx1 hc0 hc1
        have hm2 := mul_bd hx0 hx1 hd0 hd1
        have b1 : (k : Int) < (N : Int) := by omega
        have hbig := Lib.hid (@cv_big a b c d x (ks.drop (k + 1)))
        have hoks := Lib.hid (fun h => @cv_ok a b c d x (ks.drop (k + 1)) h acc)
        have e1 : IntKind.i64.wrap (x * c) = x * c := IntWalk.i64_in _ (by omega)
        have e2 : IntKind.i64.wrap (x * d) = x * d := IntWalk.i64_in _ (by omega)
        have e3 : IntKind.i64.wrap (x * c + a) = x * c + a := IntWalk.i64_in _ (by omega)
        have e4 : IntKind.i64.wrap (x * d + b) = x * d + b := IntWalk.i64_in _ (by omega)
        clear hx
        by_cases t1 : 1000000000 < x * c + a
        · have hno : R = none := by have := hg.out; rw [hdr.out, hbig.out (.inl t1)] at this; exact this.symm
          have hfin : Hid (frP ks = (0, 0) ∧ frB ks = false) := by rw [HFP.out, HFB.out, hno]; exact ⟨rfl, rfl⟩
          have d1 : decide (1000000000 < x * c + a) = true := decide_eq_true t1
          clear hno
          go_wp2
          go_ret3
          exact ⟨ret_fr (by rw [hfin.out.1]) (by rw [hfin.out.1]) hfin.out.2.symm, rfl⟩
        · have d1 : decide (1000000000 < x * c + a) = false := decide_eq_false t1
          by_cases t2 : 1000000000 < x * d + b
          · have hno : R = none := by have := hg.out; rw [hdr.out, hbig.out (.inr t2)] at this; exact this.symm
            have hfin : Hid (frP ks = (0, 0) ∧ frB ks = false) := by rw [HFP.out, HFB.out, hno]; exact ⟨rfl, rfl⟩
            have d2 : decide (1000000000 < x * d + b) = true := decide_eq_true t2
            clear hno
            go_wp2
            go_ret3
            exact ⟨ret_fr (by rw [hfin.out.1]) (by rw [hfin.out.1]) hfin.out.2.symm, rfl⟩
          · have d2 : decide (1000000000 < x * d + b) = false := decide_eq_false t2
            have hnx : Hid ((cvGo c d (x * c + a) (x * d + b) (ks.drop (k + 1))).map ((acc ++ [(x * c + a, x * d + b)]) ++ ·) = R) := by have := hg.out; rw [hdr.out, hoks.out (by omega)] at this; exact this
            have hnl : Hid (k + 1 = 0 ∨ (acc ++ [(x * c + a, x * d + b)]).getLastD (0, 0) = (x * c + a, x * d + b)) := .inr (by simp)
            go_wp2
            go_round
            case rel => exact ⟨k + 1, acc ++ [(x * c + a, x * d + b)], c, d, x * c + a, x * d + b, rfl, rfl, rfl, rfl, by go_num, by omega, by simp; omega, by omega, by omega, by omega, by omega, by omega, by omega, by omega, by omega, hnx, hnl⟩
            case measure => simp [intOf] <;> omega
      · obtain rfl : k = N := by omega
        have hR : R = some acc := by
          have := hg.out
          rw [List.drop_of_length_le (by rw [← HN.out]; exact Nat.le_refl _)] at this
          rw [← this]; simp [cvGo]
        have hfin : Hid (frP ks = (c, d) ∧ frB ks = true) := by
          rw [HFP.out, HFB.out, hR]
          refine ⟨?_, decide_eq_true ?_⟩
          · rcases hlast.out with h | h
            · omega
            · exact h
          · intro e
            have e' : acc = [] := e
            rw [e'] at hal; simp at hal; omega
        clear hR
        go_wp2
        go_ret3
        exact ⟨ret_fr (by rw [hfin.out.1]) (by rw [hfin.out.1]) hfin.out.2.symm, rfl⟩
end Go.Proofs.Ytlmciomoimfajaa
