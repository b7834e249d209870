/- Contracts of PathOf in the program and in the reference: both give the path of a fraction. Conditions: none beyond int64 arguments. -/
import Derived.Test.YtcenibojcocciaaG1
namespace Go.Proofs.Ytcenibojcocciaa
open Go.RowKit
set_option linter.unusedVariables false

def pathL : Nat → Nat → Nat → List UInt8
  | 0, _, _ => []
  | f + 1, x, y => if x = y then [] else if x < y then 76 :: pathL f x (y - x) else 82 :: pathL f (x - y) y
theorem pathL_eq (f x : Nat) : pathL f x x = [] := by cases f <;> simp [pathL]
theorem pathL_lt {f x y : Nat} (hf : 1 ≤ f) (h : x < y) : pathL f x y = 76 :: pathL (f - 1) x (y - x) := by
  obtain ⟨g, rfl⟩ : ∃ g, f = g + 1 := ⟨f - 1, by omega⟩
  rw [pathL, if_neg (by omega), if_pos h]; rfl
theorem pathL_gt {f x y : Nat} (hf : 1 ≤ f) (h : y < x) : pathL f x y = 82 :: pathL (f - 1) (x - y) y := by
  obtain ⟨g, rfl⟩ : ∃ g, f = g + 1 := ⟨f - 1, by omega⟩
  rw [pathL, if_neg (by omega), if_neg (by omega)]; rfl
theorem path_step {acc : List UInt8} {c : UInt8} {r R : List UInt8} (h : acc ++ c :: r = R) : Hid ((acc ++ [c]) ++ r = R) := by unfold Hid; rw [← h]; simp

/-- the fraction between the two neighbors -/
structure Betw (p q a b c d x y : Nat) : Prop where
  hp : p = a * y + c * x
  hq : q = b * y + d * x
  det : c * b = a * d + 1
theorem betw_start (p q : Nat) : Betw p q 0 1 1 0 p q := ⟨by omega, by omega, by omega⟩
theorem betw_cmp {p q a b c d x y : Nat} (h : Betw p q a b c d x y) : ((p : Int) * ((b + d : Nat) : Int)) - (((a + c : Nat) : Int) * (q : Int)) = (x : Int) - (y : Int) := by
  obtain ⟨h1, h2, h3⟩ := h
  have h1' : (p : Int) = a * y + c * x := by rw [h1]; simp
  have h2' : (q : Int) = b * y + d * x := by rw [h2]; simp
  have h3' : (c : Int) * b = a * d + 1 := by have := congrArg (fun n : Nat => (n : Int)) h3; simpa using this
  rw [h1', h2', Int.natCast_add, Int.natCast_add]
  generalize (a : Int) = A at *
  generalize (b : Int) = B at *
  generalize (c : Int) = C at *
  generalize (d : Int) = D at *
  generalize (x : Int) = X at *
  generalize (y : Int) = Y at *
  clear h1 h2 h3 h1' h2'
  grind
theorem betw_L {p q a b c d x t : Nat} (h : Betw p q a b c d x (x + t)) : Betw p q a b (a + c) (b + d) x t := by
  obtain ⟨h1, h2, h3⟩ := h
  refine ⟨?_, ?_, ?_⟩ <;> grind
theorem betw_R {p q a b c d y t : Nat} (h : Betw p q a b c d (y + t) y) : Betw p q (a + c) (b + d) c d t y := by
  obtain ⟨h1, h2, h3⟩ := h
  refine ⟨?_, ?_, ?_⟩ <;> grind
theorem betw_bd {p q a b c d x y : Nat} (h : Betw p q a b c d x y) (hx : 1 ≤ x) (hy : 1 ≤ y) : a + c ≤ p ∧ b + d ≤ q := by
  obtain ⟨h1, h2, _⟩ := h
  have e1 : a * 1 ≤ a * y := Nat.mul_le_mul_left _ hy
  have e2 : c * 1 ≤ c * x := Nat.mul_le_mul_left _ hx
  have e3 : b * 1 ≤ b * y := Nat.mul_le_mul_left _ hy
  have e4 : d * 1 ≤ d * x := Nat.mul_le_mul_left _ hx
  omega

theorem betw_pos {p q a b c d x y : Nat} (h : Betw p q a b c d x y) : 1 ≤ b ∧ 1 ≤ c := by
  have := h.det
  constructor
  · rcases Nat.eq_zero_or_pos b with rfl | hb
    · omega
    · exact hb
  · rcases Nat.eq_zero_or_pos c with rfl | hc
    · omega
    · exact hc

def pathOk (p q : Int) : Bool := inB p 1 400 && inB q 1 400 && (Nat.gcd p.toNat q.toNat == 1)
def pathW (p q : Int) : ByteArray := if pathOk p q = true then St (pathL (p.toNat + q.toNat) p.toNat q.toNat) else ⟨#[]⟩

set_option maxHeartbeats 1000000 in
theorem pathOf_s (p q : Int) (w : World) :
    Calls Try.prog 16 #[.int .i64 p, .int .i64 q] w fun e w' => e = .returned (.string (pathW p q)) ∧ Below w.heap.size w w' := by
  by_cases hin : inB p 1 400 = true ∧ inB q 1 400 = true
  · obtain ⟨h1, h2⟩ := hin
    have b1 := inB_iff.1 h1
    have b2 := inB_iff.1 h2
    obtain ⟨a, rfl⟩ : ∃ a : Nat, p = a := ⟨p.toNat, by omega⟩
    obtain ⟨b, rfl⟩ : ∃ b : Nat, q = b := ⟨q.toNat, by omega⟩
    obtain ⟨g, hg⟩ : ∃ g : Nat, g = Nat.gcd a b := ⟨_, rfl⟩
    have hc := fun W => Lib.hid (l09Gcd_c a b W (by omega) (by omega))
    rw [← hg] at hc
    by_cases hg1 : g = 1
    · obtain ⟨R, hR⟩ : ∃ R, R = pathL (a + b) a b := ⟨_, rfl⟩
      have hr : Hid (pathW a b = St R) := by unfold Hid pathW pathOk; rw [h1, h2, Int.toNat_natCast, Int.toNat_natCast, ← hg, hg1, hR]; rfl
      have hst : Hid ([] ++ pathL (a + b) a b = R) := hR.symm
      have hge : ((g : Int) != 1) = false := by simp [hg1]
      have hst0 : Hid (OwnB (w.alloc (.cells #[] 5)) w.heap.size (.slice (some ⟨w.heap.size, 0, none⟩) 0 0) []) := ownB_empty w (Nat.le_refl _)
      clear hg hg1 hR
      go_enter Try.func16, Try.ntmps16
      go_wp2_with (first | (go_at_call 43; refine (l01In_c _ _ _ _).mono ?_; rintro e w' ⟨rfl, rfl⟩) | (go_at_call 44; refine (hc _).out.mono ?_; rintro e w' ⟨rfl, rfl⟩))
      go_loopw [0, 1, 5] (fun u v o wr => ∃ (x y f : Nat) (acc : List UInt8), 1 ≤ x ∧ 1 ≤ y ∧ x + y ≤ f ∧ acc.length + f ≤ 800 ∧ u = .int .i64 x ∧ v = .int .i64 y ∧ Hid (acc ++ pathL f x y = R) ∧ Hid (OwnB wr w.heap.size o acc) ∧ Below w.heap.size w wr) (fun u v _ _ => (intOf u).toNat + (intOf v).toNat)
      case atStart => exact ⟨a, b, a + b, [], by omega, by omega, Nat.le_refl _, by simp; omega, rfl, rfl, hst, hst0, (Below.refl _ _).alloc (Nat.le_refl _) _⟩
      case round =>
        obtain ⟨x, y, f, acc, hx, hy, hf, hacc, rfl, rfl, hR, hown, hbw⟩ := hrel
        have hsz := hbw.size
        by_cases hlt : x < y
        · have hne : ((x : Int) != (y : Int)) = true := bne_iff_ne.2 (by omega)
          have hh : acc ++ 76 :: pathL (f - 1) x (y - x) = R := by rw [← pathL_lt (f := f) (by omega) hlt]; exact hR.out
          have hnx := path_step hh
          clear hh
          obtain ⟨t, ht⟩ : ∃ t : Nat, t = y - x := ⟨_, rfl⟩
          have hti : (y : Int) - (x : Int) = (t : Int) := by omega
          have ht1 : 1 ≤ t := by omega
          have htf : x + t ≤ f - 1 := by omega
          have hty : t < y := by omega
          rw [← ht] at hnx
          clear ht
          go_wp2_with (at_builtin; refine appB rfl _ _ rfl w.heap.size _ acc rfl (by exact hown.out) 76 _ rfl rfl (by omega) (by exact hsz) ?_; intro v' w' hown' hg')
          go_roundw
          case rel => exact ⟨x, t, f - 1, acc ++ [76], hx, ht1, htf, by simp <;> omega, rfl, rfl, hnx, hown', below_app hbw hown.out hg' hsz⟩
          case measure => simp [intOf] <;> omega
        · by_cases hgt : y < x
          · have hne : ((x : Int) != (y : Int)) = true := bne_iff_ne.2 (by omega)
            have hh : acc ++ 82 :: pathL (f - 1) (x - y) y = R := by rw [← pathL_gt (f := f) (by omega) hgt]; exact hR.out
            have hnx := path_step hh
            clear hh
            obtain ⟨t, ht⟩ : ∃ t : Nat, t = x - y := ⟨_, rfl⟩
            have hti : (x : Int) - (y : Int) = (t : Int) := by omega
            have ht1 : 1 ≤ t := by omega
            have htf : t + y ≤ f - 1 := by omega
            have htx : t < x := by omega
            rw [← ht] at hnx
            clear ht
            go_wp2_with (at_builtin; refine appB rfl _ _ rfl w.heap.size _ acc rfl (by exact hown.out) 82 _ rfl rfl (by omega) (by exact hsz) ?_; intro v' w' hown' hg')
            go_roundw
            case rel => exact ⟨t, y, f - 1, acc ++ [82], ht1, hy, htf, by simp <;> omega, rfl, rfl, hnx, hown', below_app hbw hown.out hg' hsz⟩
            case measure => simp [intOf] <;> omega
          · have hxy : x = y := by omega
            have hacc : Hid (acc = R) := by have := hR.out; rw [hxy, pathL_eq, List.append_nil] at this; exact this
            have hne : ((x : Int) != (y : Int)) = false := by rw [hxy]; simp
            have hcv := conv_own hown.out
            clear hxy
            go_wp2
            go_ret
            exact ⟨ret_str (by rw [hr.out, hacc.out]), hbw⟩
    · have hr : Hid (pathW a b = ⟨#[]⟩) := by unfold Hid pathW pathOk; rw [if_neg]; rw [h1, h2, Int.toNat_natCast, Int.toNat_natCast, ← hg]; simp [hg1]
      have hge : ((g : Int) != 1) = true := bne_iff_ne.2 (by omega)
      clear hg hg1
      go_enter Try.func16, Try.ntmps16
      go_wp2_with (first | (go_at_call 43; refine (l01In_c _ _ _ _).mono ?_; rintro e w' ⟨rfl, rfl⟩) | (go_at_call 44; refine (hc _).out.mono ?_; rintro e w' ⟨rfl, rfl⟩))
      go_ret
      exact ⟨ret_str hr.out.symm, Below.refl _ _⟩
  · have hr : Hid (pathW p q = ⟨#[]⟩) := by
      unfold Hid pathW pathOk; rw [if_neg]
      intro h; simp only [Bool.and_eq_true] at h; exact hin h.1
    by_cases h1 : inB p 1 400 = true
    · have h2 : ¬ inB q 1 400 = true := fun h => hin ⟨h1, h⟩
      clear hin
      go_enter Try.func16, Try.ntmps16
      go_wp2_with (go_at_call 43; refine (l01In_c _ _ _ _).mono ?_; rintro e w' ⟨rfl, rfl⟩)
      go_ret
      exact ⟨ret_str hr.out.symm, Below.refl _ _⟩
    · clear hin
      go_enter Try.func16, Try.ntmps16
      go_wp2_with (go_at_call 43; refine (l01In_c _ _ _ _).mono ?_; rintro e w' ⟨rfl, rfl⟩)
      go_ret
      exact ⟨ret_str hr.out.symm, Below.refl _ _⟩
set_option maxHeartbeats 1000000 in
theorem pathOf_i (p q : Int) (w : World) :
    Calls Try.prog 17 #[.int .i64 p, .int .i64 q] w fun e w' => e = .returned (.string (pathW p q)) ∧ Below w.heap.size w w' := by
  by_cases hin : inB p 1 400 = true ∧ inB q 1 400 = true
  · obtain ⟨h1, h2⟩ := hin
    have b1 := inB_iff.1 h1
    have b2 := inB_iff.1 h2
    obtain ⟨a, rfl⟩ : ∃ a : Nat, p = a := ⟨p.toNat, by omega⟩
    obtain ⟨b, rfl⟩ : ∃ b : Nat, q = b := ⟨q.toNat, by omega⟩
    obtain ⟨g, hg⟩ : ∃ g : Nat, g = Nat.gcd a b := ⟨_, rfl⟩
    have hc := fun W => Lib.hid (divisor_c a b W (by omega) (by omega))
    rw [← hg] at hc
    by_cases hg1 : g = 1
    · obtain ⟨R, hR⟩ : ∃ R, R = pathL (a + b) a b := ⟨_, rfl⟩
      have hr : Hid (pathW a b = St R) := by unfold Hid pathW pathOk; rw [h1, h2, Int.toNat_natCast, Int.toNat_natCast, ← hg, hg1, hR]; rfl
      have hst : Hid ([] ++ pathL (a + b) a b = R) := hR.symm
      have hge : ((g : Int) != 1) = false := by simp [hg1]
      have hst0 : ∀ d, Hid (OwnB ((w.alloc (.cells #[] 5)).drewN d) w.heap.size (.slice (some ⟨w.heap.size, 0, none⟩) 0 0) []) := fun d => ownB_empty w (Nat.le_refl _)
      clear hg hg1 hR
      go_enter Try.func17, Try.ntmps17
      go_wp2_with (first | (go_at_call 45; refine (within_c _ _ _ _).mono ?_; rintro e w' ⟨rfl, rfl⟩) | (go_at_call 47; refine (hc _).out.mono ?_; rintro e w' ⟨rfl, dd, rfl⟩))
      go_loopw [5, 6, 7, 8, 9] (fun o sa sb sc sd wr => ∃ (x y f : Nat) (acc : List UInt8) (k l m n : Nat), 1 ≤ x ∧ 1 ≤ y ∧ x + y ≤ f ∧ acc.length + f ≤ 800 ∧ sa = .int .i64 k ∧ sb = .int .i64 l ∧ sc = .int .i64 m ∧ sd = .int .i64 n ∧ Hid (Betw a b k l m n x y) ∧ Hid (acc ++ pathL f x y = R) ∧ Hid (OwnB wr w.heap.size o acc) ∧ Below w.heap.size w wr) (fun _ sa sb sc sd _ => 1000 - ((intOf sa).toNat + (intOf sb).toNat + (intOf sc).toNat + (intOf sd).toNat))
      case atStart => exact ⟨a, b, a + b, [], 0, 1, 1, 0, by omega, by omega, Nat.le_refl _, by simp; omega, rfl, rfl, rfl, rfl, betw_start a b, hst, hst0 _, below_drewN ((Below.refl _ _).alloc (Nat.le_refl _) _) _⟩
      case round =>
        obtain ⟨x, y, f, acc, k, l, m, n, hx, hy, hf, hacc, rfl, rfl, rfl, rfl, hbt, hR, hown, hbw⟩ := hrel
        have hsz := hbw.size
        have hbd := betw_bd hbt.out hx hy
        have hcmp := betw_cmp hbt.out
        have hpos := betw_pos hbt.out
        obtain ⟨M, hM⟩ : ∃ M : Nat, M = k + m := ⟨_, rfl⟩
        obtain ⟨N, hN⟩ : ∃ N : Nat, N = l + n := ⟨_, rfl⟩
        rw [← hM, ← hN] at hbd hcmp
        have hMi : (k : Int) + (m : Int) = (M : Int) := by omega
        have hNi : (l : Int) + (n : Int) = (N : Int) := by omega
        obtain ⟨X, hX⟩ : ∃ X : Nat, X = a * N := ⟨_, rfl⟩
        obtain ⟨Y, hY⟩ : ∃ Y : Nat, Y = M * b := ⟨_, rfl⟩
        have hXi : (a : Int) * (N : Int) = (X : Int) := by rw [hX, Int.natCast_mul]
        have hYi : (M : Int) * (b : Int) = (Y : Int) := by rw [hY, Int.natCast_mul]
        have hXb : X ≤ 160000 := by rw [hX]; exact Nat.le_trans (Nat.mul_le_mul (show a ≤ 400 by omega) (show N ≤ 400 by omega)) (by decide)
        have hYb : Y ≤ 160000 := by rw [hY]; exact Nat.le_trans (Nat.mul_le_mul (show M ≤ 400 by omega) (show b ≤ 400 by omega)) (by decide)
        have e1 : IntKind.i64.wrap ((a : Int) * (N : Int)) = (X : Int) := by rw [hXi]; exact IntWalk.i64_in _ (by omega)
        have e2 : IntKind.i64.wrap ((M : Int) * (b : Int)) = (Y : Int) := by rw [hYi]; exact IntWalk.i64_in _ (by omega)
        rw [hXi, hYi] at hcmp
        have HM := Lib.hid hM
        have HN := Lib.hid hN
        clear hX hY hM hN
        by_cases hlt : x < y
        · have hXY : X < Y := by omega
          have hXY' : decide ((X : Int) < (Y : Int)) = true := by simp; omega
          have hh : acc ++ 76 :: pathL (f - 1) x (y - x) = R := by rw [← pathL_lt (f := f) (by omega) hlt]; exact hR.out
          have hnx := path_step hh
          clear hh
          obtain ⟨t, ht⟩ : ∃ t : Nat, t = y - x := ⟨_, rfl⟩
          have ht1 : 1 ≤ t := by omega
          have htf : x + t ≤ f - 1 := by omega
          rw [← ht] at hnx
          have hb2 : Hid (Betw a b k l M N x t) := by
            have h := hbt.out
            rw [show y = x + t by omega] at h
            rw [HM.out, HN.out]; exact betw_L h
          clear ht
          go_wp2_with (at_builtin; refine appB rfl _ _ rfl w.heap.size _ acc rfl (by exact hown.out) 76 _ rfl rfl (by omega) (by exact hsz) ?_; intro v' w' hown' hg')
          go_roundw
          case rel => exact ⟨x, t, f - 1, acc ++ [76], k, l, M, N, hx, ht1, htf, by simp <;> omega, rfl, rfl, rfl, rfl, hb2, hnx, hown', below_app hbw hown.out hg' hsz⟩
          case measure => simp [intOf] <;> omega
        · by_cases hgt : y < x
          · have hXY : Y < X := by omega
            have hXY' : decide ((X : Int) < (Y : Int)) = false := by simp; omega
            have hXY2 : decide ((Y : Int) < (X : Int)) = true := by simp; omega
            have hh : acc ++ 82 :: pathL (f - 1) (x - y) y = R := by rw [← pathL_gt (f := f) (by omega) hgt]; exact hR.out
            have hnx := path_step hh
            clear hh
            obtain ⟨t, ht⟩ : ∃ t : Nat, t = x - y := ⟨_, rfl⟩
            have ht1 : 1 ≤ t := by omega
            have htf : t + y ≤ f - 1 := by omega
            rw [← ht] at hnx
            have hb2 : Hid (Betw a b M N m n t y) := by
              have h := hbt.out
              rw [show x = y + t by omega] at h
              rw [HM.out, HN.out]; exact betw_R h
            clear ht
            go_wp2_with (at_builtin; refine appB rfl _ _ rfl w.heap.size _ acc rfl (by exact hown.out) 82 _ rfl rfl (by omega) (by exact hsz) ?_; intro v' w' hown' hg')
            go_roundw
            case rel => exact ⟨t, y, f - 1, acc ++ [82], M, N, m, n, ht1, hy, htf, by simp <;> omega, rfl, rfl, rfl, rfl, hb2, hnx, hown', below_app hbw hown.out hg' hsz⟩
            case measure => simp [intOf] <;> omega
          · have hXY' : decide ((X : Int) < (Y : Int)) = false := by simp; omega
            have hXY2 : decide ((Y : Int) < (X : Int)) = false := by simp; omega
            have hxy : x = y := by omega
            have hacc : Hid (acc = R) := by have := hR.out; rw [hxy, pathL_eq, List.append_nil] at this; exact this
            have hcv := conv_own hown.out
            clear hxy
            go_wp2
            go_ret
            exact ⟨ret_str (by rw [hr.out, hacc.out]), hbw⟩
    · have hr : Hid (pathW a b = ⟨#[]⟩) := by unfold Hid pathW pathOk; rw [if_neg]; rw [h1, h2, Int.toNat_natCast, Int.toNat_natCast, ← hg]; simp [hg1]
      have hge : ((g : Int) != 1) = true := bne_iff_ne.2 (by omega)
      clear hg hg1
      go_enter Try.func17, Try.ntmps17
      go_wp2_with (first | (go_at_call 45; refine (within_c _ _ _ _).mono ?_; rintro e w' ⟨rfl, rfl⟩) | (go_at_call 47; refine (hc _).out.mono ?_; rintro e w' ⟨rfl, d, rfl⟩))
      go_ret
      exact ⟨ret_str hr.out.symm, below_drewN (Below.refl _ _) _⟩
  · have hr : Hid (pathW p q = ⟨#[]⟩) := by
      unfold Hid pathW pathOk; rw [if_neg]
      intro h; simp only [Bool.and_eq_true] at h; exact hin h.1
    by_cases h1 : inB p 1 400 = true
    · have h2 : ¬ inB q 1 400 = true := fun h => hin ⟨h1, h⟩
      clear hin
      go_enter Try.func17, Try.ntmps17
      go_wp2_with (go_at_call 45; refine (within_c _ _ _ _).mono ?_; rintro e w' ⟨rfl, rfl⟩)
      go_ret
      exact ⟨ret_str hr.out.symm, Below.refl _ _⟩
    · clear hin
      go_enter Try.func17, Try.ntmps17
      go_wp2_with (go_at_call 45; refine (within_c _ _ _ _).mono ?_; rintro e w' ⟨rfl, rfl⟩)
      go_ret
      exact ⟨ret_str hr.out.symm, Below.refl _ _⟩


theorem lawPathOf_w (p q : Int) (w : World) (w0 : (Lit.int .i64 p).wf = true) (w1 : (Lit.int .i64 q).wf = true) :
    Calls Try.prog 4 #[.int .i64 p, .int .i64 q] w fun e w' => e = .returned (.bool true) ∧ Below w.heap.size w w' := by
  go_enter Try.func4, Try.ntmps4
  go_wp2_with (first | (go_at_call 16; refine (pathOf_s _ _ _).mono ?_; rintro e w1 ⟨rfl, hb1⟩) | (go_at_call 17; refine (pathOf_i _ _ _).mono ?_; rintro e w2 ⟨rfl, hb2⟩))
  go_ret
  exact ⟨rfl, hb1.trans (hb2.mono hb1.size)⟩
end Go.Proofs.Ytcenibojcocciaa
