/- Contracts of convergents, ConvergentsOf, FractionOf in the program, of FractionOf in the reference. Conditions: a row of numbers that can be read. -/
import Derived.Test.YtlmciomoimfajaaK2
namespace Go.Proofs.Ytlmciomoimfajaa
open Go.RowKit
set_option linter.unusedVariables false

theorem cfAll_at : ∀ {ks : List Int} {j i : Nat} {k : Int}, cfAll j ks = true → ks[i]? = some k → mnI (j + i) ≤ k ∧ k ≤ 1000
  | [], _, _, _, _, h => by simp at h
  | x :: r, j, 0, k, h, e => by
    simp only [cfAll, Bool.and_eq_true] at h
    have := inB_iff.1 h.1
    simp at e; subst e; exact this
  | x :: r, j, i + 1, k, h, e => by
    simp only [cfAll, Bool.and_eq_true] at h
    have := cfAll_at (j := j + 1) (i := i) h.2 (by simpa using e)
    rw [show j + (i + 1) = j + 1 + i by omega]; exact this
theorem mnI_pos (i : Nat) : 0 ≤ mnI i := by unfold mnI; split <;> omega
theorem cv_big {a b c d x : Int} {r : List Int} (h : 1000000000 < x * c + a ∨ 1000000000 < x * d + b) : cvGo a b c d (x :: r) = none := by
  rw [cvGo, if_pos (by omega)]
theorem cv_ok {a b c d x : Int} {r : List Int} (h : ¬ (1000000000 < x * c + a ∨ 1000000000 < x * d + b)) (acc : List (Int × Int)) : (cvGo a b c d (x :: r)).map (acc ++ ·) = (cvGo c d (x * c + a) (x * d + b) r).map ((acc ++ [(x * c + a, x * d + b)]) ++ ·) := by
  rw [cvGo, if_neg (by omega)]
  cases cvGo c d (x * c + a) (x * d + b) r <;> simp
theorem below_appR {B : Nat} {a w w' : World} {v : Value} {ps : List (Int × Int)} (hb : Below B a w) (ho : OwnR w B v ps) (hg : w.grownBy w' v.ownBlock) (hB : B ≤ w.heap.size) : Below B a w' := by
  obtain ⟨gs, _, _, hr, _⟩ := ho
  exact hb.grown hg hB fun q hq => (hr.lt q hq).1
theorem mul_bd {x c : Int} (h0 : 0 ≤ x) (h1 : x ≤ 1000) (h2 : 0 ≤ c) (h3 : c ≤ 1000000000) : 0 ≤ x * c ∧ x * c ≤ 1000000000000 := by
  refine ⟨Int.mul_nonneg h0 h2, ?_⟩
  have := Int.mul_le_mul h1 h3 h2 (by omega)
  omega
theorem drop_at {ks : List Int} {k : Nat} {x : Int} (h : ks[k]? = some x) : ks.drop k = x :: ks.drop (k + 1) := by
  have hk := (List.getElem?_eq_some_iff.1 h).1
  rw [List.drop_eq_getElem_cons hk, (List.getElem?_eq_some_iff.1 h).2]

set_option maxRecDepth 20000 in
set_option maxHeartbeats 4000000 in
theorem convergents_c (v : Value) (ks : List Int) (w : World) (hrd : RdI w v ks) (hok : cfOk ks = true) :
    Calls Try.prog 102 #[v] w fun e w' => ∃ u, e = .returned (.tuple #[u, .bool (cvGo 0 1 1 0 ks).isSome]) ∧ OwnR w' w.heap.size u ((cvGo 0 1 1 0 ks).getD []) ∧ Below w.heap.size w w' := by
  have hok2 := hok
  unfold cfOk at hok2
  rw [Bool.and_eq_true] at hok2
  have hl := inB_iff.1 hok2.1
  have hK : ∀ (i : Nat) (k : Int), ks[i]? = some k → 0 ≤ k ∧ k ≤ 1000 := by
    intro i k h
    have h1 := cfAll_at hok2.2 h
    have h2 := mnI_pos (0 + i)
    omega
  have HK := Lib.hid hK
  obtain ⟨ga, cc, rfl, hcell⟩ := rdI_shapeK hrd
  have HC := Lib.hid hcell
  obtain ⟨R, hR⟩ : ∃ R, R = cvGo 0 1 1 0 ks := ⟨_, rfl⟩
  have hst : Hid ((cvGo 0 1 1 0 (ks.drop 0)).map ([] ++ ·) = R) := by unfold Hid; rw [hR, List.drop_zero]; cases cvGo 0 1 1 0 ks <;> rfl
  rw [← hR]
  obtain ⟨N, hN⟩ : ∃ N, N = ks.length := ⟨_, rfl⟩
  have HN := Lib.hid hN
  rw [← hN] at hl ⊢
  have hst0 := Lib.hid (ownR_empty w (Nat.le_refl _))
  clear hcell hrd hN hok hok2 hR hK
  go_enter Try.func102, Try.ntmps102
  go_wp2
  go_loopw [4, 5, 6, 7, 8, 14] (fun o sa sb sc sd z wr => ∃ (k : Nat) (acc : List (Int × Int)) (a b c d : Int) (u : Value), u = o ∧ sa = .int .i64 a ∧ sb = .int .i64 b ∧ sc = .int .i64 c ∧ sd = .int .i64 d ∧ z = .int .i64 k ∧ k ≤ N ∧ acc.length = k ∧ 0 ≤ a ∧ a ≤ 1000000000 ∧ 0 ≤ b ∧ b ≤ 1000000000 ∧ 0 ≤ c ∧ c ≤ 1000000000 ∧ 0 ≤ d ∧ d ≤ 1000000000 ∧ Hid ((cvGo a b c d (ks.drop k)).map (acc ++ ·) = R) ∧ Hid (OwnR wr w.heap.size u acc) ∧ Below w.heap.size w wr) (fun _ _ _ _ _ z _ => N - (intOf z).toNat)
  case atStart => exact ⟨0, [], 0, 1, 1, 0, _, rfl, rfl, rfl, rfl, rfl, rfl, by omega, rfl, by omega, by omega, by omega, by omega, by omega, by omega, by omega, by omega, hst, hst0, (Below.refl _ _).alloc (Nat.le_refl _) _⟩
  case round =>
    obtain ⟨k, acc, a, b, c, d, u, rfl, rfl, rfl, rfl, rfl, rfl, hk, hal, ha0, ha1, hb0, hb1, hc0, hc1, hd0, hd1, hg, hown, hbw⟩ := hrel
    have hsz := hbw.size
    by_cases hlk : k < N
    · obtain ⟨x, hx⟩ : ∃ x, ks[k]? = some x := ⟨_, List.getElem?_eq_getElem (by rw [← HN.out]; exact hlk)⟩
      obtain ⟨g, rfl, cx0, hcap⟩ := HC.out k x hx
      have cx : wr.cell? ⟨g, k, none⟩ = some (.int .i64 x) := by rw [hbw.cell (p := ⟨g, k, none⟩) (World.block_lt_of_cell? w _ cx0)]; exact cx0
      rw [← HN.out] at hcap
      obtain ⟨hx0, hx1⟩ := HK.out k x hx
      have hdr := Lib.hid (drop_at hx)
      have hm1 := mul_bd hx0 hx1 hc0 hc1
      have hm2 := mul_bd hx0 hx1 hd0 hd1
      have b1 : (k : Int) < (N : Int) := by omega
      have hbig := Lib.hid (@cv_big a b c d x (ks.drop (k + 1)))
      have hoks := Lib.hid (fun h => @cv_ok a b c d x (ks.drop (k + 1)) h acc)
      have e1 : IntKind.i64.wrap (x * c) = x * c := IntWalk.i64_in _ (by omega)
      have e2 : IntKind.i64.wrap (x * d) = x * d := IntWalk.i64_in _ (by omega)
      have e3 : IntKind.i64.wrap (x * c + a) = x * c + a := IntWalk.i64_in _ (by omega)
      have e4 : IntKind.i64.wrap (x * d + b) = x * d + b := IntWalk.i64_in _ (by omega)
      clear hx cx0
      by_cases t1 : 1000000000 < x * c + a
      · have hfin : Hid (R = none) := by have := hg.out; rw [hdr.out, hbig.out (.inl t1)] at this; exact this.symm
        have d1 : decide (1000000000 < x * c + a) = true := decide_eq_true t1
        go_wp2
        go_ret2
        exact ⟨_, by rw [hfin.out]; rfl, by rw [hfin.out]; exact ownR_nil _ _, hbw⟩
      · have d1 : decide (1000000000 < x * c + a) = false := decide_eq_false t1
        by_cases t2 : 1000000000 < x * d + b
        · have hfin : Hid (R = none) := by have := hg.out; rw [hdr.out, hbig.out (.inr t2)] at this; exact this.symm
          have d2 : decide (1000000000 < x * d + b) = true := decide_eq_true t2
          go_wp2
          go_ret2
          exact ⟨_, by rw [hfin.out]; rfl, by rw [hfin.out]; exact ownR_nil _ _, hbw⟩
        · have d2 : decide (1000000000 < x * d + b) = false := decide_eq_false t2
          have hnx : Hid ((cvGo c d (x * c + a) (x * d + b) (ks.drop (k + 1))).map ((acc ++ [(x * c + a, x * d + b)]) ++ ·) = R) := by have := hg.out; rw [hdr.out, hoks.out (by omega)] at this; exact this
          go_wp2_with (at_builtin; refine appR rfl _ _ rfl w.heap.size _ acc rfl (by exact hown.out) _ _ rfl (by omega) (by exact hsz) ?_; intro v2 w2 hown2 hg2)
          go_roundw
          case rel => exact ⟨k + 1, acc ++ [(x * c + a, x * d + b)], c, d, x * c + a, x * d + b, v2, rfl, rfl, rfl, rfl, rfl, by go_num, by omega, by simp; omega, by omega, by omega, by omega, by omega, by omega, by omega, by omega, by omega, hnx, hown2, below_appR hbw hown.out hg2 hsz⟩
          case measure => simp [intOf] <;> omega
    · obtain rfl : k = N := by omega
      have hfin : Hid (R = some acc) := by
        have := hg.out
        rw [List.drop_of_length_le (by rw [← HN.out]; exact Nat.le_refl _)] at this
        rw [← this]; simp [cvGo, Hid]
      go_wp2
      go_ret2
      exact ⟨_, by rw [hfin.out]; rfl, by rw [hfin.out]; exact hown.out, hbw⟩
end Go.Proofs.Ytlmciomoimfajaa
