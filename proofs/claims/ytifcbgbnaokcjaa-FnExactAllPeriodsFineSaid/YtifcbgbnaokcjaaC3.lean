/- Contracts of divisor, l09Gcd (the greatest common divisor) and AllPeriodsFine. Conditions: numbers that are not negative; strings of at most 2^30 bytes. -/
import Derived.Test.YtifcbgbnaokcjaaB9
namespace Go.Proofs.Ytifcbgbnaokcjaa
open Go.RowKit
set_option linter.unusedVariables false

theorem gcd_step (x y : Nat) : Nat.gcd x y = Nat.gcd y (x % y) := by rw [Nat.gcd_comm x y, Nat.gcd_rec y x, Nat.gcd_comm]
theorem modcast (x y : Nat) : ((x : Int)).tmod (y : Int) = ((x % y : Nat) : Int) := by rw [Int.tmod_eq_emod_of_nonneg (by omega)]; exact (Int.natCast_emod _ _).symm
theorem modcast' (x y : Nat) : ((x : Int)) % (y : Int) = ((x % y : Nat) : Int) := (Int.natCast_emod _ _).symm

set_option maxHeartbeats 400000 in
theorem divisor_c (a b : Nat) (w : World) (ha : a ≤ 1073741824) (hb : b ≤ 1073741824) :
    Calls Try.prog 49 #[.int .i64 (a : Int), .int .i64 (b : Int)] w fun e w' => e = .returned (.int .i64 ((Nat.gcd a b : Nat) : Int)) ∧ ∃ d, w' = w.drewN d := by
  go_enter Try.func49, Try.ntmps49
  go_wp2
  go_loopw [0, 1] (fun u v wr => ∃ x y d : Nat, u = .int .i64 x ∧ v = .int .i64 y ∧ x ≤ 1073741824 ∧ y ≤ 1073741824 ∧ Hid (Nat.gcd x y = Nat.gcd a b) ∧ wr = w.drewN d) (fun _ v _ => (intOf v).toNat)
  case atStart => exact ⟨a, b, 0, rfl, rfl, ha, hb, rfl, rfl⟩
  case round =>
    obtain ⟨x, y, d, rfl, rfl, hx, hy, hg, rfl⟩ := hrel
    by_cases h0 : y = 0
    · subst h0
      have hfin : Hid ((x : Int) = ((Nat.gcd a b : Nat) : Int)) := by rw [← hg.out, Nat.gcd_zero_right]; rfl
      go_wp2
      go_ret
      exact ⟨ret_int hfin.out, _, rfl⟩
    · have hz : ((y : Int) == 0) = false := by simp; omega
      have hz' : ((y : Int) != 0) = true := by simp; omega
      obtain ⟨r, hr⟩ : ∃ r : Nat, r = x % y := ⟨_, rfl⟩
      have hrl : r < y := by rw [hr]; exact Nat.mod_lt _ (by omega)
      have e1 : (x : Int).tmod (y : Int) = (r : Int) := by rw [hr]; exact modcast x y
      have e2 : (x : Int) % (y : Int) = (r : Int) := by rw [hr]; exact modcast' x y
      have HR := Lib.hid hr
      clear hr
      go_wp2
      go_quiet (fail)
      go_wp2
      go_roundw
      case rel => exact ⟨y, r, _, rfl, rfl, hy, by omega, by rw [← hg.out, gcd_step x y, ← HR.out]; rfl, by first | rfl | rw [World.drewN_drewN]⟩
      case measure => simp [intOf] <;> omega

set_option maxHeartbeats 400000 in
theorem l09Gcd_c (a b : Nat) (w : World) (ha : a ≤ 1073741824) (hb : b ≤ 1073741824) :
    Calls Try.prog 46 #[.int .i64 (a : Int), .int .i64 (b : Int)] w fun e w' => e = .returned (.int .i64 ((Nat.gcd a b : Nat) : Int)) ∧ w = w' := by
  go_enter Try.func46, Try.ntmps46
  go_wp2
  go_loop [0, 1] (fun u v => ∃ x y : Nat, u = .int .i64 x ∧ v = .int .i64 y ∧ x ≤ 1073741824 ∧ y ≤ 1073741824 ∧ Hid (Nat.gcd x y = Nat.gcd a b)) (fun _ v => (intOf v).toNat)
  case atStart => exact ⟨a, b, rfl, rfl, ha, hb, rfl⟩
  case round =>
    obtain ⟨x, y, rfl, rfl, hx, hy, hg⟩ := hrel
    by_cases h0 : y = 0
    · subst h0
      have hfin : Hid ((x : Int) = ((Nat.gcd a b : Nat) : Int)) := by rw [← hg.out, Nat.gcd_zero_right]; rfl
      go_wp2
      go_ret
      exact ⟨ret_int hfin.out, rfl⟩
    · have hz : ((y : Int) == 0) = false := by simp; omega
      obtain ⟨r, hr⟩ : ∃ r : Nat, r = x % y := ⟨_, rfl⟩
      have hrl : r < y := by rw [hr]; exact Nat.mod_lt _ (by omega)
      have e1 : (x : Int).tmod (y : Int) = (r : Int) := by rw [hr]; exact modcast x y
      have e2 : (x : Int) % (y : Int) = (r : Int) := by rw [hr]; exact modcast' x y
      have HR := Lib.hid hr
      clear hr
      go_wp2
      go_round
      case rel => exact ⟨y, r, rfl, rfl, hy, by omega, by rw [← hg.out, gcd_step x y, ← HR.out]; rfl⟩
      case measure => simp [intOf] <;> omega

/-! AllPeriodsFine -/

def perB (s : ByteArray) (n : Int) : Bool := inB n 1 s.size && powB s.data.toList 0 s.size n.toNat
def apfW (s : ByteArray) (p q : Int) : Bool :=
  wordL s.data.toList && perB s p && perB s q && (decide ((s.size : Int) < p + q - ((Nat.gcd p.toNat q.toNat : Nat) : Int)) || perB s ((Nat.gcd p.toNat q.toNat : Nat) : Int))

theorem box_cell (w : World) (x : Value) (t : TypeId) : (w.alloc (.cells #[x] t)).cell? ⟨w.heap.size, 0, none⟩ = some x := by simp
theorem box_cell2 (w : World) (x : Value) (t : TypeId) (d : Nat) : ((w.alloc (.cells #[x] t)).drewN d).cell? ⟨w.heap.size, 0, none⟩ = some x := box_cell w x t

set_option maxHeartbeats 400000 in
theorem isPeriod_c (s : ByteArray) (n : Int) (b : Nat) (w : World) (hs : s.size ≤ 1073741000) (hc : w.cell? ⟨b, 0, none⟩ = some (.string s)) :
    Calls Try.prog 47 #[.int .i64 n, .pointer (some ⟨b, 0, none⟩)] w fun e w' => e = .returned (.bool (perB s n)) ∧ ∃ d, w' = w.drewN d := by
  cases h : inB n 1 s.size
  · have r1 : Hid (perB s n = false) := by simp [perB, h, Hid]
    go_enter Try.func47, Try.ntmps47
    go_wp2_with (go_at_call 48; refine (within_c _ _ _ _).mono ?_; rintro e w' ⟨rfl, rfl⟩)
    go_ret
    exact ⟨ret_bool r1.out.symm, 0, rfl⟩
  · have hi := inB_iff.1 h
    obtain ⟨m, rfl⟩ : ∃ m : Nat, n = m := ⟨n.toNat, by omega⟩
    have r1 : Hid (perB s m = powB s.data.toList 0 s.size m) := by simp [perB, h, Hid]
    have hpc := fun W => Lib.hid (isPower_c s 0 s.size m W (by omega) (by omega) (by omega) (by omega))
    go_enter Try.func47, Try.ntmps47
    go_wp2_with (first | (go_at_call 48; refine (within_c _ _ _ _).mono ?_; rintro e w' ⟨rfl, rfl⟩) | (go_at_call 42; refine (hpc _).out.mono ?_; rintro e w' ⟨rfl, d, rfl⟩))
    go_ret
    exact ⟨ret_bool r1.out.symm, _, rfl⟩

set_option maxHeartbeats 1000000 in
theorem allPeriodsFine_i (s : ByteArray) (p q : Int) (w : World) (hs : s.size ≤ 1073741000) :
    Calls Try.prog 34 #[.string s, .int .i64 p, .int .i64 q] w fun e w' => e = .returned (.bool (apfW s p q)) ∧ Below w.heap.size w w' := by
  obtain ⟨R, hR⟩ : ∃ R, R = apfW s p q := ⟨_, rfl⟩
  rw [← hR]
  have hper := fun n W h => Lib.hid (isPeriod_c s n w.heap.size W hs h)
  cases h1 : wordL s.data.toList
  · have r1 : Hid (R = false) := by simp [hR, apfW, h1, Hid]
    clear hR
    go_enter Try.func34, Try.ntmps34
    go_wp2_with (go_at_call 40; refine (isWord_c _ _ (by unfold maxLen; omega)).mono ?_; rintro e w' ⟨rfl, rfl⟩)
    go_ret
    exact ⟨ret_bool r1.out.symm, (Below.refl _ _).alloc (Nat.le_refl _) _⟩
  · cases h2 : perB s p
    · have r1 : Hid (R = false) := by simp [hR, apfW, h2, Hid]
      clear hR
      go_enter Try.func34, Try.ntmps34
      go_wp2_with (go_at_call 40; refine (isWord_c _ _ (by unfold maxLen; omega)).mono ?_; rintro e w' ⟨rfl, rfl⟩)
      refine ((hper _ _ (box_cell _ _ _)).out).mono ?_
      rintro e w' ⟨rfl, d, rfl⟩
      go_wp2
      go_ret
      exact ⟨ret_bool r1.out.symm, below_drewN ((Below.refl _ _).alloc (Nat.le_refl _) _) _⟩
    · cases h3 : perB s q
      · have r1 : Hid (R = false) := by simp [hR, apfW, h3, Hid]
        clear hR
        go_enter Try.func34, Try.ntmps34
        go_wp2_with (go_at_call 40; refine (isWord_c _ _ (by unfold maxLen; omega)).mono ?_; rintro e w' ⟨rfl, rfl⟩)
        refine ((hper _ _ (box_cell _ _ _)).out).mono ?_
        rintro e w' ⟨rfl, d, rfl⟩
        go_wp2_with fail
        refine ((hper _ _ (box_cell2 _ _ _ _)).out).mono ?_
        rintro e w' ⟨rfl, d2, rfl⟩
        go_wp2
        go_ret
        exact ⟨ret_bool r1.out.symm, below_drewN ((Below.refl _ _).alloc (Nat.le_refl _) _) _⟩
      · have i2 := inB_iff.1 (Bool.and_eq_true_iff.1 h2).1
        have i3 := inB_iff.1 (Bool.and_eq_true_iff.1 h3).1
        obtain ⟨a, rfl⟩ : ∃ a : Nat, p = a := ⟨p.toNat, by omega⟩
        obtain ⟨b, rfl⟩ : ∃ b : Nat, q = b := ⟨q.toNat, by omega⟩
        obtain ⟨g, hg⟩ : ∃ g : Nat, g = Nat.gcd a b := ⟨_, rfl⟩
        have hgl : g ≤ a := by rw [hg]; exact Nat.le_of_dvd (by omega) (Nat.gcd_dvd_left a b)
        have r1 : Hid (R = (decide ((s.size : Int) < (a : Int) + (b : Int) - (g : Int)) || perB s (g : Int))) := by simp [hR, apfW, h1, h2, h3, Hid, hg]
        have hdc := fun W => Lib.hid (divisor_c a b W (by omega) (by omega))
        rw [← hg] at hdc
        clear hR hg
        by_cases hlt : (s.size : Int) < (a : Int) + (b : Int) - (g : Int)
        all_goals
          have HLT := Lib.hid hlt
          go_enter Try.func34, Try.ntmps34
          go_wp2_with (go_at_call 40; refine (isWord_c _ _ (by unfold maxLen; omega)).mono ?_; rintro e w' ⟨rfl, rfl⟩)
          refine ((hper _ _ (box_cell _ _ _)).out).mono ?_
          rintro e w' ⟨rfl, d, rfl⟩
          go_wp2_with fail
          refine ((hper _ _ (box_cell2 _ _ _ _)).out).mono ?_
          rintro e w' ⟨rfl, d2, rfl⟩
          go_wp2_with fail
          refine ((hdc _).out).mono ?_
          rintro e w' ⟨rfl, d3, rfl⟩
        · go_wp2
          go_ret
          exact ⟨ret_bool (by rw [r1.out, decide_eq_true HLT.out, Bool.true_or]), below_drewN ((Below.refl _ _).alloc (Nat.le_refl _) _) _⟩
        · go_wp2_with fail
          refine ((hper _ _ (box_cell2 _ _ _ _)).out).mono ?_
          rintro e w' ⟨rfl, d4, rfl⟩
          go_wp2
          go_ret
          exact ⟨ret_bool (by rw [r1.out, decide_eq_false (Int.not_lt.2 HLT.out), Bool.false_or]), below_drewN ((Below.refl _ _).alloc (Nat.le_refl _) _) _⟩

set_option maxHeartbeats 1000000 in
theorem allPeriodsFine_s (s : ByteArray) (p q : Int) (w : World) (hs : s.size ≤ 1073741000) :
    Calls Try.prog 33 #[.string s, .int .i64 p, .int .i64 q] w fun e w' => e = .returned (.bool (apfW s p q)) ∧ ∃ d, w' = w.drewN d := by
  obtain ⟨R, hR⟩ : ∃ R, R = apfW s p q := ⟨_, rfl⟩
  rw [← hR]
  by_cases hv : wordL s.data.toList = true ∧ inB p 1 s.size = true ∧ inB q 1 s.size = true
  · obtain ⟨h1, h2, h3⟩ := hv
    have i2 := inB_iff.1 h2
    have i3 := inB_iff.1 h3
    obtain ⟨a, rfl⟩ : ∃ a : Nat, p = a := ⟨p.toNat, by omega⟩
    obtain ⟨b, rfl⟩ : ∃ b : Nat, q = b := ⟨q.toNat, by omega⟩
    obtain ⟨g, hg⟩ : ∃ g : Nat, g = Nat.gcd a b := ⟨_, rfl⟩
    have hgl : g ≤ a := by rw [hg]; exact Nat.le_of_dvd (by omega) (Nat.gcd_dvd_left a b)
    have hg1 : 1 ≤ g := by rw [hg]; exact Nat.gcd_pos_of_pos_left _ (by omega)
    have r1 : Hid (R = (powB s.data.toList 0 s.size a && powB s.data.toList 0 s.size b && (decide ((s.size : Int) < (a : Int) + (b : Int) - (g : Int)) || powB s.data.toList 0 s.size g))) := by
      have e : perB s (g : Int) = powB s.data.toList 0 s.size g := by
        have : inB (g : Int) 1 s.size = true := inB_iff.2 (by omega)
        simp [perB, this]
      unfold Hid; rw [← e]; simp [hR, apfW, perB, h1, h2, h3, hg]
    have hdc := fun W => Lib.hid (l09Gcd_c a b W (by omega) (by omega))
    rw [← hg] at hdc
    clear hR hg
    have a1 : (a : Int) ≤ (s.size : Int) := by omega
    have a2 : 0 ≤ (s.size : Int) - (a : Int) := by omega
    have a3 : ((s.size : Int) - (a : Int)).toNat = s.size - a := by omega
    have a4 : IntKind.i64.wrap ((s.size : Int) - (a : Int)) = (s.size : Int) - (a : Int) := IntWalk.i64_in _ (by omega)
    have a5 : (s.size : Int) - (a : Int) ≤ (s.size : Int) := by omega
    have b1 : (b : Int) ≤ (s.size : Int) := by omega
    have b2 : 0 ≤ (s.size : Int) - (b : Int) := by omega
    have b3 : ((s.size : Int) - (b : Int)).toNat = s.size - b := by omega
    have b4 : IntKind.i64.wrap ((s.size : Int) - (b : Int)) = (s.size : Int) - (b : Int) := IntWalk.i64_in _ (by omega)
    have b5 : (s.size : Int) - (b : Int) ≤ (s.size : Int) := by omega
    have g1 : (g : Int) ≤ (s.size : Int) := by omega
    have g2 : 0 ≤ (s.size : Int) - (g : Int) := by omega
    have g3 : ((s.size : Int) - (g : Int)).toNat = s.size - g := by omega
    have g4 : IntKind.i64.wrap ((s.size : Int) - (g : Int)) = (s.size : Int) - (g : Int) := IntWalk.i64_in _ (by omega)
    have g5 : (s.size : Int) - (g : Int) ≤ (s.size : Int) := by omega
    have g6 : IntKind.i64.wrap ((a : Int) + (b : Int)) = (a : Int) + (b : Int) := IntWalk.i64_in _ (by omega)
    have g7 : IntKind.i64.wrap ((a : Int) + (b : Int) - (g : Int)) = (a : Int) + (b : Int) - (g : Int) := IntWalk.i64_in _ (by omega)
    have ea := ends_eq s a (by omega)
    have eb := ends_eq s b (by omega)
    have eg := ends_eq s g (by omega)
    cases pa : powB s.data.toList 0 s.size a
    · rw [pa] at ea
      have ea' : ((s.extract 0 (s.size - a)).toList != (s.extract a s.size).toList) = true := by rw [bne, ea]; rfl
      have r2 : Hid (R = false) := by rw [Hid, r1.out, pa]; rfl
      clear pa eb eg
      go_enter Try.func33, Try.ntmps33
      go_wp2_with (first | (go_at_call 39; refine (wordOk_c _ _ (by unfold maxLen; omega)).mono ?_; rintro e w' ⟨rfl, rfl⟩) | (go_at_call 45; refine (l01In_c _ _ _ _).mono ?_; rintro e w' ⟨rfl, rfl⟩))
      go_quiet (fail)
      go_wp2
      go_ret
      exact ⟨ret_bool r2.out.symm, _, rfl⟩
    · rw [pa] at ea
      have ea' : ((s.extract 0 (s.size - a)).toList != (s.extract a s.size).toList) = false := by rw [bne, ea]; rfl
      cases pb : powB s.data.toList 0 s.size b
      · rw [pb] at eb
        have eb' : ((s.extract 0 (s.size - b)).toList != (s.extract b s.size).toList) = true := by rw [bne, eb]; rfl
        have r2 : Hid (R = false) := by rw [Hid, r1.out, pb, pa]; rfl
        clear pa pb eg
        go_enter Try.func33, Try.ntmps33
        go_wp2_with (first | (go_at_call 39; refine (wordOk_c _ _ (by unfold maxLen; omega)).mono ?_; rintro e w' ⟨rfl, rfl⟩) | (go_at_call 45; refine (l01In_c _ _ _ _).mono ?_; rintro e w' ⟨rfl, rfl⟩))
        go_quiet (fail)
        go_wp2
        go_ret
        exact ⟨ret_bool r2.out.symm, _, rfl⟩
      · rw [pb] at eb
        have eb' : ((s.extract 0 (s.size - b)).toList != (s.extract b s.size).toList) = false := by rw [bne, eb]; rfl
        have r2 : Hid (R = (decide ((s.size : Int) < (a : Int) + (b : Int) - (g : Int)) || powB s.data.toList 0 s.size g)) := by rw [Hid, r1.out, pa, pb]; rfl
        clear pa pb
        by_cases hlt : (s.size : Int) < (a : Int) + (b : Int) - (g : Int)
        · have r3 : Hid (R = true) := by rw [Hid, r2.out, decide_eq_true hlt]; rfl
          have hd : decide ((s.size : Int) < (a : Int) + (b : Int) - (g : Int)) = true := decide_eq_true hlt
          go_enter Try.func33, Try.ntmps33
          go_wp2_with (first | (go_at_call 39; refine (wordOk_c _ _ (by unfold maxLen; omega)).mono ?_; rintro e w' ⟨rfl, rfl⟩) | (go_at_call 45; refine (l01In_c _ _ _ _).mono ?_; rintro e w' ⟨rfl, rfl⟩))
          go_quiet (fail)
          go_wp2_with (go_at_call 46; refine (hdc _).out.mono ?_; rintro e w' ⟨rfl, rfl⟩)
          go_quiet (fail)
          go_wp2
          go_ret
          exact ⟨ret_bool r3.out.symm, _, by first | rfl | (repeat rw [World.drewN_drewN])⟩
        · have r3 : Hid (R = powB s.data.toList 0 s.size g) := by rw [Hid, r2.out, decide_eq_false hlt]; rfl
          have hd : decide ((s.size : Int) < (a : Int) + (b : Int) - (g : Int)) = false := decide_eq_false hlt
          go_enter Try.func33, Try.ntmps33
          go_wp2_with (first | (go_at_call 39; refine (wordOk_c _ _ (by unfold maxLen; omega)).mono ?_; rintro e w' ⟨rfl, rfl⟩) | (go_at_call 45; refine (l01In_c _ _ _ _).mono ?_; rintro e w' ⟨rfl, rfl⟩))
          go_quiet (fail)
          go_wp2_with (go_at_call 46; refine (hdc _).out.mono ?_; rintro e w' ⟨rfl, rfl⟩)
          go_quiet (fail)
          go_wp2
          go_ret
          exact ⟨ret_bool r3.out.symm, _, by first | rfl | (repeat rw [World.drewN_drewN])⟩
  · have r1 : Hid (R = false) := by
      unfold Hid; rw [hR]
      cases h1 : wordL s.data.toList <;> cases h2 : inB p 1 s.size <;> cases h3 : inB q 1 s.size <;> simp [apfW, perB, h1, h2, h3]
      exact (hv ⟨h1, h2, h3⟩).elim
    have hv' := Lib.hid hv
    clear hv hR
    go_enter Try.func33, Try.ntmps33
    go_wp2_with (first | (go_at_call 39; refine (wordOk_c _ _ (by unfold maxLen; omega)).mono ?_; rintro e w' ⟨rfl, rfl⟩) | (go_at_call 45; refine (l01In_c _ _ _ _).mono ?_; rintro e w' ⟨rfl, rfl⟩))
    all_goals first | exact (hv'.out ⟨by assumption, by assumption, by simpa using (by assumption : (!inB q 1 s.size) = false)⟩).elim | (go_ret; exact ⟨ret_bool r1.out.symm, 0, rfl⟩)


theorem lawAllPeriodsFine_w (s : ByteArray) (p q : Int) (w : World) (w0 : s.size ≤ maxLen) (w1 : (Lit.int .i64 p).wf = true) (w2 : (Lit.int .i64 q).wf = true) :
    Calls Try.prog 12 #[.string s, .int .i64 p, .int .i64 q] w fun e w' => e = .returned (.bool true) ∧ Below w.heap.size w w' := by
  unfold maxLen at w0
  by_cases hs : 1048576 < s.size
  · go_enter Try.func12, Try.ntmps12
    go_wp2
    go_ret
    exact ⟨rfl, Below.refl _ _⟩
  · go_enter Try.func12, Try.ntmps12
    go_wp2_with (first | (go_at_call 33; refine (allPeriodsFine_s _ _ _ _ (by omega)).mono ?_; rintro e w1 ⟨rfl, d1, rfl⟩) | (go_at_call 34; refine (allPeriodsFine_i _ _ _ _ (by omega)).mono ?_; rintro e w2 ⟨rfl, hb2⟩))
    go_ret
    exact ⟨rfl, (below_drewN (Below.refl _ _) _).trans hb2⟩
end Go.Proofs.Ytifcbgbnaokcjaa
