/- Contracts of CountBalanced in the program and in the reference. Conditions: none beyond int64 arguments. -/
import Derived.Test.YtcenibojcocciaaG1
namespace Go.Proofs.Ytcenibojcocciaa
open Go.RowKit
set_option linter.unusedVariables false

/-- how many of 1 .. k are coprime to n -/
def cop (n : Nat) : Nat → Nat
  | 0 => 0
  | k + 1 => cop n k + if Nat.gcd (k + 1) n = 1 then 1 else 0
theorem cop_le (n : Nat) : ∀ k, cop n k ≤ k
  | 0 => Nat.le_refl _
  | k + 1 => by have := cop_le n k; unfold cop; split <;> omega
theorem cop_yes {n k : Nat} (h : Nat.gcd (k + 1) n = 1) : cop n (k + 1) = cop n k + 1 := by rw [cop, if_pos h]
theorem cop_no {n k : Nat} (h : ¬ Nat.gcd (k + 1) n = 1) : cop n (k + 1) = cop n k := by rw [cop, if_neg h]; omega
/-- the sum behind i = 1 .. k -/
def cbSum (n : Nat) : Nat → Nat
  | 0 => 1
  | k + 1 => cbSum n k + (n - k) * cop (k + 1) (k + 1)
theorem cb_prod {n k : Nat} (hn : n ≤ 12) (hk : k ≤ 11) : (n - k) * cop (k + 1) (k + 1) ≤ 144 := by
  have h1 := cop_le (k + 1) (k + 1)
  have : (n - k) * cop (k + 1) (k + 1) ≤ 12 * 12 := Nat.mul_le_mul (by omega) (by omega)
  omega
theorem cbSum_le (n : Nat) (hn : n ≤ 12) : ∀ k, k ≤ 12 → cbSum n k ≤ 1 + k * 144
  | 0, _ => by simp [cbSum]
  | k + 1, h => by
    have := cbSum_le n hn k (by omega)
    have := cb_prod hn (show k ≤ 11 by omega)
    unfold cbSum; omega
def cbW (n : Int) : Int := if inB n 0 12 = true then ((cbSum n.toNat n.toNat : Nat) : Int) else -1

set_option maxHeartbeats 400000 in
theorem coprimes_c (n : Nat) (w : World) (hn : n ≤ 1000) :
    Calls Try.prog 46 #[.int .i64 (n : Int)] w fun e w' => e = .returned (.int .i64 ((cop n n : Nat) : Int)) ∧ ∃ d, w' = w.drewN d := by
  go_enter Try.func46, Try.ntmps46
  go_wp2
  go_loopw [3, 4] (fun a i wr => ∃ k v d : Nat, k ≤ n ∧ i = .int .i64 ((k : Int) + 1) ∧ a = .int .i64 v ∧ Hid (v = cop n k) ∧ wr = w.drewN d) (fun _ i _ => n + 1 - (intOf i).toNat)
  case atStart => exact ⟨0, 0, 0, Nat.zero_le _, rfl, rfl, rfl, rfl⟩
  case round =>
    obtain ⟨k, v, d, hk, rfl, rfl, hv, rfl⟩ := hrel
    have hvk : v ≤ k := by rw [hv.out]; exact cop_le _ _
    by_cases hlt : k < n
    · obtain ⟨g, hg⟩ : ∃ g : Nat, g = Nat.gcd (k + 1) n := ⟨_, rfl⟩
      have hc := fun W => Lib.hid (divisor_c (k + 1) n W (by omega) (by omega))
      rw [← hg] at hc
      have HG := Lib.hid hg
      clear hg
      by_cases h1 : g = 1
      · have h1' : ((g : Int) == 1) = true := by simp [h1]
        have H1 := Lib.hid h1
        clear h1
        go_wp2_with (go_at_call 47; refine (hc _).out.mono ?_; rintro e w' ⟨rfl, d2, rfl⟩)
        go_roundw
        case rel => exact ⟨k + 1, v + 1, _, by omega, by go_num, by go_num, by rw [cop_yes (by rw [← HG.out]; exact H1.out), ← hv.out]; rfl, rfl⟩
        case measure => simp [intOf] <;> omega
      · have h1' : ((g : Int) == 1) = false := by simp; omega
        have H1 := Lib.hid h1
        clear h1
        go_wp2_with (go_at_call 47; refine (hc _).out.mono ?_; rintro e w' ⟨rfl, d2, rfl⟩)
        go_roundw
        case rel => exact ⟨k + 1, v, _, by omega, by go_num, rfl, by rw [cop_no (by rw [← HG.out]; exact H1.out), ← hv.out]; rfl, rfl⟩
        case measure => simp [intOf] <;> omega
    · have hfin : Hid ((v : Int) = ((cop n n : Nat) : Int)) := by rw [hv.out, show k = n by omega]; rfl
      go_wp2
      go_ret
      exact ⟨ret_int hfin.out, _, rfl⟩

set_option maxHeartbeats 1000000 in
theorem countBalanced_i (n : Int) (w : World) :
    Calls Try.prog 15 #[.int .i64 n] w fun e w' => e = .returned (.int .i64 (cbW n)) ∧ ∃ d, w' = w.drewN d := by
  by_cases hok : inB n 0 12 = true
  · have hb := inB_iff.1 hok
    obtain ⟨m, rfl⟩ : ∃ m : Nat, n = m := ⟨n.toNat, by omega⟩
    have hr : Hid (cbW m = ((cbSum m m : Nat) : Int)) := by unfold Hid cbW; rw [if_pos hok]; rfl
    have hm : m ≤ 12 := by omega
    go_enter Try.func15, Try.ntmps15
    go_wp2_with (go_at_call 45; refine (within_c _ _ _ _).mono ?_; rintro e w' ⟨rfl, rfl⟩)
    go_loopw [3, 4] (fun a i wr => ∃ k v d : Nat, k ≤ m ∧ i = .int .i64 ((k : Int) + 1) ∧ a = .int .i64 v ∧ Hid (v = cbSum m k) ∧ wr = w.drewN d) (fun _ i _ => m + 1 - (intOf i).toNat)
    case atStart => exact ⟨0, 1, 0, Nat.zero_le _, rfl, rfl, rfl, rfl⟩
    case round =>
      obtain ⟨k, v, d, hk, rfl, rfl, hv, rfl⟩ := hrel
      have hvk : v ≤ 1 + k * 144 := by rw [hv.out]; exact cbSum_le m hm k (by omega)
      by_cases hlt : k < m
      · obtain ⟨t, ht⟩ : ∃ t : Nat, t = cop (k + 1) (k + 1) := ⟨_, rfl⟩
        have htl : t ≤ 12 := by have := cop_le (k + 1) (k + 1); omega
        have hc := fun W => Lib.hid (coprimes_c (k + 1) W (by omega))
        rw [← ht] at hc
        obtain ⟨z, hz⟩ : ∃ z : Nat, z = (m - k) * t := ⟨_, rfl⟩
        have hzl : z ≤ 144 := by rw [hz, ht]; exact cb_prod hm (by omega)
        have hc0 : (m : Int) - ((k : Int) + 1) + 1 = ((m - k : Nat) : Int) := by omega
        have hzi : (((m - k : Nat) : Int)) * (t : Int) = (z : Int) := by rw [hz, Int.natCast_mul]
        have e1 : IntKind.i64.wrap ((((m - k : Nat) : Int)) * (t : Int)) = (z : Int) := by rw [hzi]; exact IntWalk.i64_in _ (by omega)
        have hnext : Hid (v + z = cbSum m (k + 1)) := by unfold Hid cbSum; rw [← ht, ← hz, ← hv.out]
        clear ht hz
        go_wp2_with (go_at_call 46; refine (hc _).out.mono ?_; rintro e w' ⟨rfl, d2, rfl⟩)
        go_roundw
        case rel => exact ⟨k + 1, v + z, _, by omega, by go_num, by go_num, hnext, rfl⟩
        case measure => simp [intOf] <;> omega
      · have hfin : Hid ((v : Int) = cbW m) := by rw [hr.out, hv.out, show k = m by omega]; rfl
        go_wp2
        go_ret
        exact ⟨ret_int hfin.out, _, rfl⟩
  · have hr : Hid (cbW n = -1) := if_neg hok
    go_enter Try.func15, Try.ntmps15
    go_wp2_with (go_at_call 45; refine (within_c _ _ _ _).mono ?_; rintro e w' ⟨rfl, rfl⟩)
    go_ret
    exact ⟨ret_int hr.out.symm, 0, rfl⟩

set_option maxHeartbeats 1000000 in
theorem countBalanced_s (n : Int) (w : World) :
    Calls Try.prog 14 #[.int .i64 n] w fun e w' => e = .returned (.int .i64 (cbW n)) ∧ w = w' := by
  by_cases hok : inB n 0 12 = true
  · have hb := inB_iff.1 hok
    obtain ⟨m, rfl⟩ : ∃ m : Nat, n = m := ⟨n.toNat, by omega⟩
    have hr : Hid (cbW m = ((cbSum m m : Nat) : Int)) := by unfold Hid cbW; rw [if_pos hok]; rfl
    have hm : m ≤ 12 := by omega
    go_enter Try.func14, Try.ntmps14
    go_wp2_with (go_at_call 43; refine (l01In_c _ _ _ _).mono ?_; rintro e w' ⟨rfl, rfl⟩)
    go_loop [3, 4] (fun a i => ∃ k v : Nat, k ≤ m ∧ i = .int .i64 ((k : Int) + 1) ∧ a = .int .i64 v ∧ Hid (v = cbSum m k)) (fun _ i => m + 1 - (intOf i).toNat)
    case atStart => exact ⟨0, 1, Nat.zero_le _, rfl, rfl, rfl⟩
    case round =>
      obtain ⟨k, v, hk, rfl, rfl, hv⟩ := hrel
      have hvk : v ≤ 1 + k * 144 := by rw [hv.out]; exact cbSum_le m hm k (by omega)
      by_cases hlt : k < m
      · have hd : decide ((k : Int) + 1 ≤ (m : Int)) = true := by simp; omega
        go_wp2
        go_loop [5, 6] (fun a i => ∃ j u : Nat, j ≤ k + 1 ∧ i = .int .i64 ((j : Int) + 1) ∧ a = .int .i64 u ∧ Hid (u = cop (k + 1) j)) (fun _ i => k + 2 - (intOf i).toNat)
        case atStart => exact ⟨0, 0, Nat.zero_le _, rfl, rfl, rfl⟩
        case round =>
          obtain ⟨j, u, hj, rfl, rfl, hu⟩ := hrel
          have huj : u ≤ j := by rw [hu.out]; exact cop_le _ _
          by_cases hjl : j < k + 1
          · obtain ⟨g, hg⟩ : ∃ g : Nat, g = Nat.gcd (k + 1) (j + 1) := ⟨_, rfl⟩
            have hc := fun W => Lib.hid (l09Gcd_c (k + 1) (j + 1) W (by omega) (by omega))
            rw [← hg] at hc
            have HG : Hid (g = Nat.gcd (j + 1) (k + 1)) := by rw [hg, Nat.gcd_comm]; rfl
            clear hg
            by_cases h1 : g = 1
            · have h1' : ((g : Int) == 1) = true := by simp [h1]
              have H1 := Lib.hid h1
              clear h1
              go_wp2_with (go_at_call 44; refine (hc _).out.mono ?_; rintro e w' ⟨rfl, rfl⟩)
              go_round
              case rel => exact ⟨j + 1, u + 1, by omega, by go_num, by go_num, by rw [cop_yes (by rw [← HG.out]; exact H1.out), ← hu.out]; rfl⟩
              case measure => simp [intOf] <;> omega
            · have h1' : ((g : Int) == 1) = false := by simp; omega
              have H1 := Lib.hid h1
              clear h1
              go_wp2_with (go_at_call 44; refine (hc _).out.mono ?_; rintro e w' ⟨rfl, rfl⟩)
              go_round
              case rel => exact ⟨j + 1, u, by omega, by go_num, rfl, by rw [cop_no (by rw [← HG.out]; exact H1.out), ← hu.out]; rfl⟩
              case measure => simp [intOf] <;> omega
          · have hjk : j = k + 1 := by omega
            obtain ⟨z, hz⟩ : ∃ z : Nat, z = (m - k) * u := ⟨_, rfl⟩
            have hzl : z ≤ 144 := by rw [hz, hu.out, hjk]; exact cb_prod hm (by omega)
            have hc0 : (m : Int) - ((k : Int) + 1) + 1 = ((m - k : Nat) : Int) := by omega
            have hzi : (((m - k : Nat) : Int)) * (u : Int) = (z : Int) := by rw [hz, Int.natCast_mul]
            have e1 : IntKind.i64.wrap ((((m - k : Nat) : Int)) * (u : Int)) = (z : Int) := by rw [hzi]; exact IntWalk.i64_in _ (by omega)
            have hnext : Hid (v + z = cbSum m (k + 1)) := by unfold Hid cbSum; rw [hz, hu.out, hjk, ← hv.out]
            clear hz hjk
            go_wp2
            go_round
            case rel => exact ⟨k + 1, v + z, by omega, by go_num, by go_num, hnext⟩
            case measure => simp [intOf] <;> omega
      · have hfin : Hid ((v : Int) = cbW m) := by rw [hr.out, hv.out, show k = m by omega]; rfl
        go_wp2
        go_ret
        exact ⟨ret_int hfin.out, rfl⟩
  · have hr : Hid (cbW n = -1) := if_neg hok
    go_enter Try.func14, Try.ntmps14
    go_wp2_with (go_at_call 43; refine (l01In_c _ _ _ _).mono ?_; rintro e w' ⟨rfl, rfl⟩)
    go_ret
    exact ⟨ret_int hr.out.symm, rfl⟩


theorem lawCountBalanced_w (n : Int) (w : World) (w0 : (Lit.int .i64 n).wf = true) :
    Calls Try.prog 3 #[.int .i64 n] w fun e w' => e = .returned (.bool true) ∧ Below w.heap.size w w' := by
  go_enter Try.func3, Try.ntmps3
  go_wp2_with (first | (go_at_call 14; refine (countBalanced_s _ _).mono ?_; rintro e w1 ⟨rfl, rfl⟩) | (go_at_call 15; refine (countBalanced_i _ _).mono ?_; rintro e w2 ⟨rfl, d2, rfl⟩))
  go_ret
  exact ⟨rfl, below_drewN (Below.refl _ _) _⟩
end Go.Proofs.Ytcenibojcocciaa
