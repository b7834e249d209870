/- Contracts of CountIn and NearestTo in the program and in the reference. Conditions: none beyond int64 arguments. -/
import Derived.Test.YticbdpkmpnechaaA1
import Derived.Lib.Hide
import Derived.Deep.QuietTactic
import Derived.BigQuiet
namespace Go.Proofs.Yticbdpkmpnechaa
open Go.RowKit
set_option linter.unusedVariables false

def gapsOk (p q n : Int) : Bool := inB q 1 1000 && inB p 0 (q - 1) && inB n 1 400
theorem gapsOk_iff {p q n : Int} : gapsOk p q n = true ↔ 1 ≤ q ∧ q ≤ 1000 ∧ 0 ≤ p ∧ p ≤ q - 1 ∧ 1 ≤ n ∧ n ≤ 400 := by
  simp only [gapsOk, Bool.and_eq_true, inB_iff]; omega

theorem areGaps_c (p q n : Int) (w : World) :
    Calls Try.prog 50 #[.int .i64 p, .int .i64 q, .int .i64 n] w fun e w' => e = .returned (.bool (gapsOk p q n)) ∧ w = w' := by
  by_cases h1 : inB q 1 1000 = true
  · have h1' := inB_iff.1 h1
    go_enter Try.func50, Try.ntmps50
    go_wp2_with (go_at_call 57; refine (within_c _ _ _ _).mono ?_; rintro e w' ⟨rfl, rfl⟩)
    all_goals (go_ret; exact ⟨ret_bool (by simp [gapsOk, *]), rfl⟩)
  · go_enter Try.func50, Try.ntmps50
    go_wp2_with (go_at_call 57; refine (within_c _ _ _ _).mono ?_; rintro e w' ⟨rfl, rfl⟩)
    all_goals (go_ret; exact ⟨ret_bool (by simp [gapsOk, *]), rfl⟩)
theorem l11Ok_c (p q n : Int) (w : World) :
    Calls Try.prog 49 #[.int .i64 p, .int .i64 q, .int .i64 n] w fun e w' => e = .returned (.bool (gapsOk p q n)) ∧ w = w' := by
  by_cases h1 : inB q 1 1000 = true
  · have h1' := inB_iff.1 h1
    go_enter Try.func49, Try.ntmps49
    go_wp2_with (go_at_call 66; refine (l01In_c _ _ _ _).mono ?_; rintro e w' ⟨rfl, rfl⟩)
    all_goals (go_ret; exact ⟨ret_bool (by simp [gapsOk, *]), rfl⟩)
  · go_enter Try.func49, Try.ntmps49
    go_wp2_with (go_at_call 66; refine (l01In_c _ _ _ _).mono ?_; rintro e w' ⟨rfl, rfl⟩)
    all_goals (go_ret; exact ⟨ret_bool (by simp [gapsOk, *]), rfl⟩)

theorem pt_mul {p : Int} {k m : Nat} (hk : k ≤ m) (hm : m ≤ 400) (h0 : 0 ≤ p) (h1 : p ≤ 1000) : 0 ≤ (k : Int) * p ∧ (k : Int) * p ≤ 400000 := by
  constructor
  · exact Int.mul_nonneg (by omega) h0
  · have h : (k : Int) * p ≤ 400 * 1000 := Int.mul_le_mul (by omega) h1 h0 (by omega)
    omega

/-! CountIn -/
def cntIn (p q lo hi : Int) : Nat → Int
  | 0 => 0
  | k + 1 => cntIn p q lo hi k + if inB (((k : Int) * p) % q) lo hi = true then 1 else 0
theorem cntIn_bd (p q lo hi : Int) : ∀ k : Nat, 0 ≤ cntIn p q lo hi k ∧ cntIn p q lo hi k ≤ k
  | 0 => by simp [cntIn]
  | k + 1 => by have := cntIn_bd p q lo hi k; unfold cntIn; split <;> omega
theorem cntIn_hit {p q lo hi : Int} {k : Nat} (h : inB (((k : Int) * p) % q) lo hi = true) : cntIn p q lo hi (k + 1) = cntIn p q lo hi k + 1 := by rw [cntIn, if_pos h]
theorem cntIn_miss {p q lo hi : Int} {k : Nat} (h : ¬ inB (((k : Int) * p) % q) lo hi = true) : cntIn p q lo hi (k + 1) = cntIn p q lo hi k := by rw [cntIn, if_neg h]; omega
def countIn (p q n lo hi : Int) : Int := if gapsOk p q n = true then cntIn p q lo hi n.toNat else -1

set_option maxHeartbeats 400000 in
theorem countIn_i (p q n lo hi : Int) (w : World) :
    Calls Try.prog 48 #[.int .i64 p, .int .i64 q, .int .i64 n, .int .i64 lo, .int .i64 hi] w fun e w' => e = .returned (.int .i64 (countIn p q n lo hi)) ∧ w = w' := by
  by_cases hok : gapsOk p q n = true
  · have hb := gapsOk_iff.1 hok
    obtain ⟨m, rfl⟩ : ∃ m : Nat, n = m := ⟨n.toNat, by omega⟩
    have hr : Hid (countIn p q m lo hi = cntIn p q lo hi m) := by simp [countIn, hok, Hid]
    go_enter Try.func48, Try.ntmps48
    go_wp2_with (go_at_call 50; refine (areGaps_c _ _ _ _).mono ?_; rintro e w' ⟨rfl, rfl⟩)
    go_loop [11, 19] (fun c i => ∃ k : Nat, k ≤ m ∧ i = .int .i64 k ∧ c = .int .i64 (cntIn p q lo hi k)) (fun _ i => m - (intOf i).toNat)
    case atStart => exact ⟨0, Nat.zero_le _, rfl, rfl⟩
    case round =>
      obtain ⟨k, hk, rfl, rfl⟩ := hrel
      have hm := pt_mul (p := p) hk (by omega) hb.2.2.1 (by omega)
      have hc := cntIn_bd p q lo hi k
      go_wp2_with (go_at_call 57; refine (within_c _ _ _ _).mono ?_; rintro e w' ⟨rfl, rfl⟩)
      · have hh : inB (((k : Int) * p) % q) lo hi = true := by assumption
        go_round
        case rel => exact ⟨k + 1, by omega, by go_num, by rw [cntIn_hit hh]⟩
        case measure => simp [intOf]; omega
      · have hh : inB (((k : Int) * p) % q) lo hi = false := by assumption
        go_round
        case rel => exact ⟨k + 1, by omega, by go_num, by rw [cntIn_miss (by simp [hh])]⟩
        case measure => simp [intOf]; omega
      · have : k = m := by omega
        subst this
        go_ret
        exact ⟨ret_int hr.out.symm, rfl⟩
  · have hr : Hid (countIn p q n lo hi = -1) := if_neg hok
    go_enter Try.func48, Try.ntmps48
    go_wp2_with (go_at_call 50; refine (areGaps_c _ _ _ _).mono ?_; rintro e w' ⟨rfl, rfl⟩)
    go_ret
    exact ⟨ret_int hr.out.symm, rfl⟩

/-! NearestTo -/
/-- the two nearest so far, behind the points 1 .. k -/
def nrst (p q : Int) : Nat → Nat × Nat
  | 0 => (1, 1)
  | k + 1 => (if (((k + 1 : Nat) : Int) * p) % q < (((nrst p q k).1 : Int) * p) % q then k + 1 else (nrst p q k).1,
      if (((nrst p q k).2 : Int) * p) % q < (((k + 1 : Nat) : Int) * p) % q then k + 1 else (nrst p q k).2)
theorem nrst_step {p q : Int} {k l h : Nat} (hk : 1 ≤ k) (hs : nrst p q (k - 1) = (l, h)) :
    nrst p q k = (if ((k : Int) * p) % q < ((l : Int) * p) % q then k else l, if ((h : Int) * p) % q < ((k : Int) * p) % q then k else h) := by
  obtain ⟨j, rfl⟩ : ∃ j, k = j + 1 := ⟨k - 1, by omega⟩
  simp only [Nat.add_sub_cancel] at hs
  rw [nrst, hs]
theorem hid_nr {p q : Int} {k a b l h : Nat} (hs : nrst p q k = (a, b)) (ha : a = l) (hb : b = h) : Hid (nrst p q (k + 1 - 1) = (l, h)) := by
  subst ha hb; exact hs
theorem nrst_bd (p q : Int) : ∀ k, (nrst p q k).1 ≤ k + 1 ∧ (nrst p q k).2 ≤ k + 1
  | 0 => by simp [nrst]
  | k + 1 => by
    have := nrst_bd p q k
    unfold nrst
    constructor <;> (simp only; split <;> omega)
def nearLo (p q n : Int) : Int := if gapsOk p q n = true ∧ n ≠ 1 then (nrst p q (n - 1).toNat).1 else -1
def nearHi (p q n : Int) : Int := if gapsOk p q n = true ∧ n ≠ 1 then (nrst p q (n - 1).toNat).2 else -1

set_option maxHeartbeats 1000000 in
theorem nearestTo_i (p q n : Int) (w : World) :
    Calls Try.prog 46 #[.int .i64 p, .int .i64 q, .int .i64 n] w fun e w' => e = .returned (.tuple #[.int .i64 (nearLo p q n), .int .i64 (nearHi p q n)]) ∧ Below w.heap.size w w' := by
  by_cases hok : gapsOk p q n = true
  · have hb := gapsOk_iff.1 hok
    by_cases h1 : n = 1
    · subst h1
      have hr1 : Hid (nearLo p q 1 = -1) := by simp [nearLo, Hid]
      have hr2 : Hid (nearHi p q 1 = -1) := by simp [nearHi, Hid]
      go_enter Try.func46, Try.ntmps46
      go_wp2_with (go_at_call 50; refine (areGaps_c _ _ _ _).mono ?_; rintro e w' ⟨rfl, rfl⟩)
      go_ret2
      exact ⟨ret_ii hr1.out.symm hr2.out.symm, Below.refl _ _⟩
    · obtain ⟨m, rfl⟩ : ∃ m : Nat, n = m := ⟨n.toNat, by omega⟩
      have hm2 : 2 ≤ m := by omega
      have hm4 : m ≤ 400 := by omega
      have hn1 : ((m : Int) == 1) = false := by simp; omega
      have hr1 : Hid (nearLo p q m = (nrst p q (m - 1)).1) := by unfold nearLo; rw [if_pos ⟨hok, h1⟩]; exact congrArg (fun j : Nat => ((nrst p q j).1 : Int)) (by omega)
      have hr2 : Hid (nearHi p q m = (nrst p q (m - 1)).2) := by unfold nearHi; rw [if_pos ⟨hok, h1⟩]; exact congrArg (fun j : Nat => ((nrst p q j).2 : Int)) (by omega)
      clear h1
      have hqt : (q == 0) = false := by simp; omega
      go_enter Try.func46, Try.ntmps46
      go_wp2_with (go_at_call 50; refine (areGaps_c _ _ _ _).mono ?_; rintro e w' ⟨rfl, rfl⟩)
      go_loopw [8, 9, 10] (fun a b i wr => ∃ k l h : Nat, 1 ≤ k ∧ k ≤ m ∧ i = .int .i64 k ∧ a = .int .i64 l ∧ b = .int .i64 h ∧ Hid (nrst p q (k - 1) = (l, h)) ∧ Below w.heap.size w wr) (fun _ _ i _ => m - (intOf i).toNat)
      case atStart => exact ⟨1, 1, 1, by omega, by omega, rfl, rfl, rfl, rfl, Below.refl _ _⟩
      case round =>
        obtain ⟨k, l, h, hk1, hk, rfl, rfl, rfl, hst, hbw⟩ := hrel
        have hlb := nrst_bd p q (k - 1)
        rw [hst.out] at hlb
        have m1 := pt_mul (p := p) hk hm4 hb.2.2.1 (by omega)
        have m2 := pt_mul (p := p) (k := l) (m := 400) (by omega) (by omega) hb.2.2.1 (by omega)
        have m3 := pt_mul (p := p) (k := h) (m := 400) (by omega) (by omega) hb.2.2.1 (by omega)
        clear hlb
        by_cases hlt : k < m
        · have e1 : IntKind.i64.wrap ((k : Int) * p) = (k : Int) * p := IntWalk.i64_in _ (by omega)
          have e2 : IntKind.i64.wrap ((l : Int) * p) = (l : Int) * p := IntWalk.i64_in _ (by omega)
          have e3 : IntKind.i64.wrap ((h : Int) * p) = (h : Int) * p := IntWalk.i64_in _ (by omega)
          have t1 : ((k : Int) * p).tmod q = ((k : Int) * p) % q := Int.tmod_eq_emod_of_nonneg m1.1
          have t2 : ((l : Int) * p).tmod q = ((l : Int) * p) % q := Int.tmod_eq_emod_of_nonneg m2.1
          have t3 : ((h : Int) * p).tmod q = ((h : Int) * p) % q := Int.tmod_eq_emod_of_nonneg m3.1
          have hstep := Lib.hid (nrst_step hk1 hst.out)
          by_cases c1 : ((k : Int) * p) % q < ((l : Int) * p) % q <;> by_cases c2 : ((h : Int) * p) % q < ((k : Int) * p) % q
          all_goals
            go_wp2
            go_quiet (fail)
            go_wp2
            go_quiet (fail)
            go_wp2
            go_roundw
            case rel => exact ⟨k + 1, _, _, by omega, by omega, by go_num, rfl, rfl, hid_nr hstep.out (by first | rw [if_pos c1] | rw [if_neg (Int.not_lt.2 c1)]) (by first | rw [if_pos c2] | rw [if_neg (Int.not_lt.2 c2)]), below_drewN hbw _⟩
            case measure => simp [intOf] <;> omega
        · have hkm : k = m := by omega
          subst hkm
          go_wp2
          go_ret2
          exact ⟨ret_ii (by rw [hr1.out, hst.out]) (by rw [hr2.out, hst.out]), hbw⟩
  · have hr1 : Hid (nearLo p q n = -1) := if_neg (fun h => hok h.1)
    have hr2 : Hid (nearHi p q n = -1) := if_neg (fun h => hok h.1)
    go_enter Try.func46, Try.ntmps46
    go_wp2_with (go_at_call 50; refine (areGaps_c _ _ _ _).mono ?_; rintro e w' ⟨rfl, rfl⟩)
    go_ret2
    exact ⟨ret_ii hr1.out.symm hr2.out.symm, Below.refl _ _⟩

end Go.Proofs.Yticbdpkmpnechaa
