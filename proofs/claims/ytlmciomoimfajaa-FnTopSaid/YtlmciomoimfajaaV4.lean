/- Contracts of has and sum of the laws. Conditions: short rows that can be read. -/
import Derived.Test.YtlmciomoimfajaaM1
import Derived.Test.YtlmciomoimfajaaV0
namespace Go.Proofs.Ytlmciomoimfajaa
open Go.RowKit
set_option linter.unusedVariables false

theorem rdI_shape {w : World} {v : Value} {L : List Int} (hrd : RdI w v L) : ∃ ga cc, v = .slice ga L.length cc ∧ ∀ (k : Nat) x, L[k]? = some x → ∃ g, ga = some ⟨g, 0, none⟩ ∧ w.cell? ⟨g, k, none⟩ = some (.int .i64 x) ∧ L.length ≤ cc := by
  rcases hrd with ⟨rfl, h0⟩ | ⟨g, cap, rfl, hcap, hc⟩
  · exact ⟨none, 0, by rw [h0]; rfl, fun k x hk => by rw [h0] at hk; simp at hk⟩
  · exact ⟨_, _, rfl, fun k x hk => ⟨g, rfl, hc k x hk, hcap⟩⟩
set_option maxHeartbeats 1000000 in
theorem has_c (v : Value) (L : List Int) (x : Int) (w : World) (hrd : RdI w v L) (hl : L.length ≤ 1000001) :
    Calls Try.prog 22 #[v, .int .i64 x] w fun e w' => e = .returned (.bool (decide (x ∈ L))) ∧ w = w' := by
  obtain ⟨ga, cc, rfl, hcell⟩ := rdI_shape hrd
  have HC := Lib.hid hcell
  have hno : Hid ((∀ j, j < L.length → L[j]? ≠ some x) → decide (x ∈ L) = false) := fun h => by
    refine decide_eq_false fun hm => ?_
    obtain ⟨j, hj, e⟩ := List.mem_iff_getElem.1 hm
    exact h j hj (by rw [List.getElem?_eq_getElem hj, e])
  obtain ⟨N, hN⟩ : ∃ N, N = L.length := ⟨_, rfl⟩
  have HN := Lib.hid hN
  rw [← hN] at hl hno ⊢
  clear hcell hrd hN
  go_enter Try.func22, Try.ntmps22
  go_wp2
  go_loop [9] (fun z => ∃ k : Nat, z = .int .i64 k ∧ k ≤ N ∧ Hid (∀ j, j < k → L[j]? ≠ some x)) (fun z => N - (intOf z).toNat)
  case atStart => exact ⟨0, rfl, by omega, fun j hj => by omega⟩
  case round =>
    obtain ⟨k, rfl, hk, hb⟩ := hrel
    by_cases hlk : k < N
    · obtain ⟨y, hy⟩ : ∃ y, L[k]? = some y := ⟨_, List.getElem?_eq_getElem (by rw [← HN.out]; exact hlk)⟩
      obtain ⟨g, rfl, cx, hcap⟩ := HC.out k y hy
      rw [← HN.out] at hcap
      have b1 : (k : Int) < (N : Int) := by omega
      have HY := Lib.hid hy
      clear hy
      by_cases he : y = x
      · have hm : Hid (decide (x ∈ L) = true) := decide_eq_true (by rw [← he]; exact List.mem_of_getElem? HY.out)
        have hb1 : (y == x) = true := by simpa using he
        have hb2 : (x == y) = true := by simpa using he.symm
        clear he
        go_wp2
        go_ret
        exact ⟨ret_bool hm.out.symm, rfl⟩
      · have hnx : Hid (∀ j, j < k + 1 → L[j]? ≠ some x) := fun j hj => by
          rcases Nat.lt_succ_iff_lt_or_eq.1 hj with hj | rfl
          · exact hb.out j hj
          · rw [HY.out]; intro e; exact he (Option.some.inj e)
        have hb1 : (y == x) = false := by simpa using he
        have hb2 : (x == y) = false := by simpa using fun h => he h.symm
        clear he
        go_wp2
        go_round
        case rel => exact ⟨k + 1, by go_num, by omega, hnx⟩
        case measure => simp [intOf] <;> omega
    · obtain rfl : k = N := by omega
      have hm := Lib.hid (hno.out hb.out)
      go_wp2
      go_ret
      exact ⟨ret_bool hm.out.symm, rfl⟩
set_option maxHeartbeats 1000000 in
theorem sum_c (v : Value) (L : List Int) (w : World) (hrd : RdI w v L) (hl : L.length ≤ 1000) (hb : ∀ x ∈ L, 0 ≤ x ∧ x ≤ 100000) :
    Calls Try.prog 13 #[v] w fun e w' => e = .returned (.int .i64 (sumL L)) ∧ w = w' := by
  obtain ⟨ga, cc, rfl, hcell⟩ := rdI_shape hrd
  have HC := Lib.hid hcell
  have HB := Lib.hid hb
  have hsz : ∀ k, k ≤ L.length → 0 ≤ sumL (L.take k) ∧ sumL (L.take k) ≤ 100000 * k := by
    intro k
    induction k with
    | zero => intro _; simp [sumL]
    | succ k ih =>
      intro hk
      rw [List.take_succ_eq_append_getElem (by omega), sumL_snoc]
      have := ih (by omega)
      have := hb L[k] (List.getElem_mem _)
      omega
  have HS := Lib.hid hsz
  have hfin : Hid (sumL L = sumL (L.take L.length)) := by rw [List.take_length]; rfl
  obtain ⟨N, hN⟩ : ∃ N, N = L.length := ⟨_, rfl⟩
  have HN := Lib.hid hN
  rw [← hN] at hl HS hfin ⊢
  clear hcell hrd hN hb hsz
  go_enter Try.func13, Try.ntmps13
  go_wp2
  go_loop [3, 8] (fun u z => ∃ k : Nat, z = .int .i64 k ∧ u = .int .i64 (sumL (L.take k)) ∧ k ≤ N) (fun _ z => N - (intOf z).toNat)
  case atStart => exact ⟨0, rfl, by simp [sumL], by omega⟩
  case round =>
    obtain ⟨k, rfl, rfl, hk⟩ := hrel
    have hs1 := HS.out k hk
    by_cases hlk : k < N
    · obtain ⟨y, hy⟩ : ∃ y, L[k]? = some y := ⟨_, List.getElem?_eq_getElem (by rw [← HN.out]; exact hlk)⟩
      obtain ⟨g, rfl, cx, hcap⟩ := HC.out k y hy
      rw [← HN.out] at hcap
      have hyb := HB.out y (List.mem_of_getElem? hy)
      have hnx : Hid (sumL (L.take (k + 1)) = sumL (L.take k) + y) := by
        unfold Hid; rw [List.take_succ_eq_append_getElem (by rw [← HN.out]; exact hlk), sumL_snoc, (List.getElem?_eq_some_iff.1 hy).2]
      obtain ⟨S, hS⟩ : ∃ S, S = sumL (L.take k) := ⟨_, rfl⟩
      rw [← hS] at hnx hs1 ⊢
      have b1 : (k : Int) < (N : Int) := by omega
      have e1 : IntKind.i64.wrap (S + y) = S + y := IntWalk.i64_in _ (by omega)
      clear hy hS
      go_wp2
      go_round
      case rel => exact ⟨k + 1, by go_num, by rw [hnx.out], by omega⟩
      case measure => simp [intOf] <;> omega
    · obtain rfl : k = N := by omega
      go_wp2
      go_ret
      exact ⟨ret_int hfin.out.symm, rfl⟩
end Go.Proofs.Ytlmciomoimfajaa
