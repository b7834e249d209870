/- Contracts of MechanicalWord and l10Mechanical: both make the word 'mechL'. Conditions: none beyond int64 arguments. -/
import Derived.Test.YtcenibojcocciaaB0
import Derived.Deep.QuietTactic
import Derived.BigQuiet
namespace Go.Proofs.Ytcenibojcocciaa
open Go.RowKit
set_option linter.unusedVariables false

/-- letter k of a mechanical word -/
def mechB (p q st : Int) (k : Nat) : Bool := decide ((st + (k : Int) * p) / q < (st + ((k : Int) + 1) * p) / q)
def mechL (p q st : Int) : Nat → List UInt8
  | 0 => []
  | k + 1 => mechL p q st k ++ [if mechB p q st k = true then 98 else 97]
theorem mechL_len (p q st : Int) : ∀ k, (mechL p q st k).length = k
  | 0 => rfl
  | k + 1 => by simp [mechL, mechL_len p q st k]
theorem mechL_b {p q st : Int} {k : Nat} (h : mechB p q st k = true) : mechL p q st (k + 1) = mechL p q st k ++ [98] := by rw [mechL, if_pos h]
theorem mechL_a {p q st : Int} {k : Nat} (h : ¬ mechB p q st k = true) : mechL p q st (k + 1) = mechL p q st k ++ [97] := by rw [mechL, if_neg h]
theorem mechB_iff {p q st : Int} {k : Nat} : mechB p q st k = true ↔ (st + (k : Int) * p) / q < (st + ((k : Int) + 1) * p) / q := by simp [mechB]
def mechOk (p q st n : Int) : Bool := inB q 1 100 && inB p 0 q && inB st 0 (q - 1) && inB n 0 400
theorem mechOk_iff {p q st n : Int} : mechOk p q st n = true ↔ 1 ≤ q ∧ q ≤ 100 ∧ 0 ≤ p ∧ p ≤ q ∧ 0 ≤ st ∧ st ≤ q - 1 ∧ 0 ≤ n ∧ n ≤ 400 := by
  simp only [mechOk, Bool.and_eq_true, inB_iff]; omega
theorem mech_mul {p : Int} {k : Nat} (hk : k ≤ 401) (h0 : 0 ≤ p) (h1 : p ≤ 100) : 0 ≤ (k : Int) * p ∧ (k : Int) * p ≤ 40100 := by
  constructor
  · exact Int.mul_nonneg (by omega) h0
  · have h : (k : Int) * p ≤ 401 * 100 := Int.mul_le_mul (by omega) h1 h0 (by omega)
    omega
theorem ediv_bd {x q m : Int} (hx : 0 ≤ x) (hq : 1 ≤ q) (hm : x ≤ m) : 0 ≤ x / q ∧ x / q ≤ m :=
  ⟨Int.ediv_nonneg hx (by omega), Int.le_trans (Int.ediv_le_self _ hx) hm⟩
theorem mech_mul1 {p : Int} {k : Nat} (hk : k ≤ 400) (h0 : 0 ≤ p) (h1 : p ≤ 100) : 0 ≤ ((k : Int) + 1) * p ∧ ((k : Int) + 1) * p ≤ 40100 := by
  have := mech_mul (p := p) (k := k + 1) (by omega) h0 h1
  simpa using this

set_option maxHeartbeats 1000000 in
theorem mechanical_yes_i (p q st : Int) (m : Nat) (w : World) (hok : mechOk p q st m = true) :
    Calls Try.prog 49 #[.int .i64 p, .int .i64 q, .int .i64 st, .int .i64 (m : Int)] w fun e w' => e = .returned (.tuple #[.string (St (mechL p q st m)), .bool true]) ∧ Below w.heap.size w w' := by
  have hb := mechOk_iff.1 hok
  have h1 : inB q 1 100 = true := inB_iff.2 (by omega)
  have h2 : inB p 0 q = true := inB_iff.2 (by omega)
  have h3 : inB st 0 (q - 1) = true := inB_iff.2 (by omega)
  have h4 : inB m 0 400 = true := inB_iff.2 (by omega)
  have hst0 : Hid (OwnB (w.alloc (.cells #[] 5)) w.heap.size (.slice (some ⟨w.heap.size, 0, none⟩) 0 0) (mechL p q st 0)) := ownB_empty w (Nat.le_refl _)
  have hqt : (q == 0) = false := by simp; omega
  clear hok
  go_enter Try.func49, Try.ntmps49
  go_wp2_with (go_at_call 45; refine (within_c _ _ _ _).mono ?_; rintro e w' ⟨rfl, rfl⟩)
  go_loopw [10, 35] (fun v i wr => ∃ k : Nat, k ≤ m ∧ i = .int .i64 k ∧ Hid (OwnB wr w.heap.size v (mechL p q st k)) ∧ Below w.heap.size w wr) (fun _ i _ => m - (intOf i).toNat)
  case atStart => exact ⟨0, Nat.zero_le _, rfl, hst0, (Below.refl _ _).alloc (Nat.le_refl _) _⟩
  case round =>
    obtain ⟨k, hk, rfl, hown, hbw⟩ := hrel
    by_cases hlt : k < m
    · have m1 := mech_mul (p := p) (k := k) (by omega) hb.2.2.1 (by omega)
      have m2 := mech_mul1 (p := p) (k := k) (by omega) hb.2.2.1 (by omega)
      have hln := mechL_len p q st k
      have hll : (mechL p q st k).length ≤ 1099511627776 := by omega
      clear hln
      have hsz := hbw.size
      have d0 : 0 ≤ st + (k : Int) * p := by omega
      have d1 : 0 ≤ st + ((k : Int) + 1) * p := by omega
      have e0 : IntKind.i64.wrap ((k : Int) + 1) = (k : Int) + 1 := IntWalk.i64_in _ (by omega)
      have e1 : IntKind.i64.wrap ((k : Int) * p) = (k : Int) * p := IntWalk.i64_in _ (by omega)
      have e2 : IntKind.i64.wrap (((k : Int) + 1) * p) = ((k : Int) + 1) * p := IntWalk.i64_in _ (by omega)
      have e3 : IntKind.i64.wrap (st + (k : Int) * p) = st + (k : Int) * p := IntWalk.i64_in _ (by omega)
      have e4 : IntKind.i64.wrap (st + ((k : Int) + 1) * p) = st + ((k : Int) + 1) * p := IntWalk.i64_in _ (by omega)
      have t1 : (st + (k : Int) * p).tdiv q = (st + (k : Int) * p) / q := Int.tdiv_eq_ediv_of_nonneg d0
      have t2 : (st + ((k : Int) + 1) * p).tdiv q = (st + ((k : Int) + 1) * p) / q := Int.tdiv_eq_ediv_of_nonneg d1
      have q0 := ediv_bd d0 hb.1 (show st + (k : Int) * p ≤ 1000000 by omega)
      have q1 := ediv_bd d1 hb.1 (show st + ((k : Int) + 1) * p ≤ 1000000 by omega)
      have e5 : IntKind.i64.wrap ((st + (k : Int) * p) / q) = (st + (k : Int) * p) / q := IntWalk.i64_in _ (by omega)
      have e6 : IntKind.i64.wrap ((st + ((k : Int) + 1) * p) / q) = (st + ((k : Int) + 1) * p) / q := IntWalk.i64_in _ (by omega)
      by_cases c1 : (st + (k : Int) * p) / q < (st + ((k : Int) + 1) * p) / q
      · have hL := Lib.hid (mechL_b (mechB_iff.2 c1))
        go_wp2
        go_quiet (fail)
        go_wp2_with (at_builtin; refine appB rfl _ _ rfl w.heap.size _ (mechL p q st k) rfl (by exact hown.out) 98 _ rfl rfl hll (by exact hsz) ?_; intro v' w' hown' hg')
        go_roundw
        case rel => exact ⟨k + 1, by omega, by go_num, by rw [hL.out]; exact hown', below_app (below_drewN hbw _) hown.out hg' hsz⟩
        case measure => simp [intOf] <;> omega
      · have hL := Lib.hid (mechL_a (fun h => c1 (mechB_iff.1 h)))
        go_wp2
        go_quiet (fail)
        go_wp2_with (at_builtin; refine appB rfl _ _ rfl w.heap.size _ (mechL p q st k) rfl (by exact hown.out) 97 _ rfl rfl hll (by exact hsz) ?_; intro v' w' hown' hg')
        go_roundw
        case rel => exact ⟨k + 1, by omega, by go_num, by rw [hL.out]; exact hown', below_app (below_drewN hbw _) hown.out hg' hsz⟩
        case measure => simp [intOf] <;> omega
    · have hkm : k = m := by omega
      subst hkm
      have hcv := conv_own hown.out
      go_wp2
      go_ret2
      exact ⟨rfl, hbw⟩

theorem mechOk_no1 {p q st n : Int} (h : ¬ mechOk p q st n = true) (h1 : inB q 1 100 = true) : inB p 0 q = true → inB st 0 (q - 1) = true → (!inB n 0 400) = false → False := fun a b c => h (by simp only [Bool.not_eq_false'] at c; simp [mechOk, h1, a, b, c])
set_option maxHeartbeats 1000000 in
theorem mechanical_no_i (p q st n : Int) (w : World) (hok : ¬ mechOk p q st n = true) :
    Calls Try.prog 49 #[.int .i64 p, .int .i64 q, .int .i64 st, .int .i64 n] w fun e w' => e = .returned (.tuple #[.string ⟨#[]⟩, .bool false]) ∧ w = w' := by
  by_cases h1 : inB q 1 100 = true
  · have h1' := inB_iff.1 h1
    have ht := Lib.hid (mechOk_no1 hok h1)
    clear hok
    go_enter Try.func49, Try.ntmps49
    go_wp2_with (go_at_call 45; refine (within_c _ _ _ _).mono ?_; rintro e w' ⟨rfl, rfl⟩)
    all_goals first | exact (ht.out (by assumption) (by assumption) (by assumption)).elim | (go_ret2; exact ⟨rfl, rfl⟩)
  · clear hok
    go_enter Try.func49, Try.ntmps49
    go_wp2_with (go_at_call 45; refine (within_c _ _ _ _).mono ?_; rintro e w' ⟨rfl, rfl⟩)
    go_ret2
    exact ⟨rfl, rfl⟩

set_option maxHeartbeats 1000000 in
theorem l10Mechanical_c (p q st : Int) (m : Nat) (w : World) (hok : mechOk p q st m = true) :
    Calls Try.prog 48 #[.int .i64 p, .int .i64 q, .int .i64 st, .int .i64 (m : Int)] w fun e w' => e = .returned (.string (St (mechL p q st m))) ∧ Below w.heap.size w w' := by
  have hb := mechOk_iff.1 hok
  have hst0 : Hid (OwnB (w.alloc (.cells #[] 5)) w.heap.size (.slice (some ⟨w.heap.size, 0, none⟩) 0 0) (mechL p q st 0)) := ownB_empty w (Nat.le_refl _)
  have hqt : (q == 0) = false := by simp; omega
  clear hok
  go_enter Try.func48, Try.ntmps48
  go_wp2
  go_loopw [9, 10] (fun v i wr => ∃ k : Nat, k ≤ m ∧ i = .int .i64 k ∧ Hid (OwnB wr w.heap.size v (mechL p q st k)) ∧ Below w.heap.size w wr) (fun _ i _ => m - (intOf i).toNat)
  case atStart => exact ⟨0, Nat.zero_le _, rfl, hst0, (Below.refl _ _).alloc (Nat.le_refl _) _⟩
  case round =>
    obtain ⟨k, hk, rfl, hown, hbw⟩ := hrel
    by_cases hlt : k < m
    · have m1 := mech_mul (p := p) (k := k) (by omega) hb.2.2.1 (by omega)
      have m2 := mech_mul1 (p := p) (k := k) (by omega) hb.2.2.1 (by omega)
      have hln := mechL_len p q st k
      have hll : (mechL p q st k).length ≤ 1099511627776 := by omega
      clear hln
      have hsz := hbw.size
      have d0 : 0 ≤ st + (k : Int) * p := by omega
      have d1 : 0 ≤ st + ((k : Int) + 1) * p := by omega
      have e0 : IntKind.i64.wrap ((k : Int) + 1) = (k : Int) + 1 := IntWalk.i64_in _ (by omega)
      have e1 : IntKind.i64.wrap ((k : Int) * p) = (k : Int) * p := IntWalk.i64_in _ (by omega)
      have e2 : IntKind.i64.wrap (((k : Int) + 1) * p) = ((k : Int) + 1) * p := IntWalk.i64_in _ (by omega)
      have e3 : IntKind.i64.wrap (st + (k : Int) * p) = st + (k : Int) * p := IntWalk.i64_in _ (by omega)
      have e4 : IntKind.i64.wrap (st + ((k : Int) + 1) * p) = st + ((k : Int) + 1) * p := IntWalk.i64_in _ (by omega)
      have t1 : (st + (k : Int) * p).tdiv q = (st + (k : Int) * p) / q := Int.tdiv_eq_ediv_of_nonneg d0
      have t2 : (st + ((k : Int) + 1) * p).tdiv q = (st + ((k : Int) + 1) * p) / q := Int.tdiv_eq_ediv_of_nonneg d1
      have q0 := ediv_bd d0 hb.1 (show st + (k : Int) * p ≤ 1000000 by omega)
      have q1 := ediv_bd d1 hb.1 (show st + ((k : Int) + 1) * p ≤ 1000000 by omega)
      have e5 : IntKind.i64.wrap ((st + (k : Int) * p) / q) = (st + (k : Int) * p) / q := IntWalk.i64_in _ (by omega)
      have e6 : IntKind.i64.wrap ((st + ((k : Int) + 1) * p) / q) = (st + ((k : Int) + 1) * p) / q := IntWalk.i64_in _ (by omega)
      by_cases c1 : (st + (k : Int) * p) / q < (st + ((k : Int) + 1) * p) / q
      · have hL := Lib.hid (mechL_b (mechB_iff.2 c1))
        go_wp2
        go_quiet (fail)
        go_wp2_with (at_builtin; refine appB rfl _ _ rfl w.heap.size _ (mechL p q st k) rfl (by exact hown.out) 98 _ rfl rfl hll (by exact hsz) ?_; intro v' w' hown' hg')
        go_roundw
        case rel => exact ⟨k + 1, by omega, by go_num, by rw [hL.out]; exact hown', below_app (below_drewN hbw _) hown.out hg' hsz⟩
        case measure => simp [intOf] <;> omega
      · have hL := Lib.hid (mechL_a (fun h => c1 (mechB_iff.1 h)))
        go_wp2
        go_quiet (fail)
        go_wp2_with (at_builtin; refine appB rfl _ _ rfl w.heap.size _ (mechL p q st k) rfl (by exact hown.out) 97 _ rfl rfl hll (by exact hsz) ?_; intro v' w' hown' hg')
        go_roundw
        case rel => exact ⟨k + 1, by omega, by go_num, by rw [hL.out]; exact hown', below_app (below_drewN hbw _) hown.out hg' hsz⟩
        case measure => simp [intOf] <;> omega
    · have hkm : k = m := by omega
      subst hkm
      have hcv := conv_own hown.out
      go_wp2
      go_ret
      exact ⟨rfl, hbw⟩

end Go.Proofs.Ytcenibojcocciaa
