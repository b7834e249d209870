/- Contracts of CountLyndon in the program and in the reference: a sum over divisors, and primitive words counted by length; that both agree is a table of 48 numbers. Conditions: none beyond int64 arguments. -/
import Derived.Test.YtlmciomoimfajaaG4
namespace Go.Proofs.Ytlmciomoimfajaa
open Go.RowKit
set_option linter.unusedVariables false

/-! ### plain -/
def mob : Nat → Nat → Nat → Int → Int
  | 0, _, _, out => out
  | f + 1, n, p, out => if n ≤ 1 then out else if n % p ≠ 0 then mob f n (p + 1) out else if (n / p) % p = 0 then 0 else mob f (n / p) (p + 1) (-out)
def mobius (n : Nat) : Int := mob 12 n 2 1
theorem mob_done {f n p : Nat} {out : Int} (h : n ≤ 1) : mob f n p out = out := by cases f <;> simp [mob, h]
theorem mob_skip {f n p : Nat} {out : Int} (hf : 1 ≤ f) (h : ¬ n ≤ 1) (hm : n % p ≠ 0) : mob f n p out = mob (f - 1) n (p + 1) out := by
  obtain ⟨g, rfl⟩ : ∃ g, f = g + 1 := ⟨f - 1, by omega⟩
  rw [mob, if_neg h, if_pos hm]; rfl
theorem mob_zero {f n p : Nat} {out : Int} (hf : 1 ≤ f) (h : ¬ n ≤ 1) (hm : n % p = 0) (h2 : (n / p) % p = 0) : mob f n p out = 0 := by
  obtain ⟨g, rfl⟩ : ∃ g, f = g + 1 := ⟨f - 1, by omega⟩
  rw [mob, if_neg h, if_neg (by omega), if_pos h2]
theorem mob_div {f n p : Nat} {out : Int} (hf : 1 ≤ f) (h : ¬ n ≤ 1) (hm : n % p = 0) (h2 : ¬ (n / p) % p = 0) : mob f n p out = mob (f - 1) (n / p) (p + 1) (-out) := by
  obtain ⟨g, rfl⟩ : ∃ g, f = g + 1 := ⟨f - 1, by omega⟩
  rw [mob, if_neg h, if_neg (by omega), if_neg h2]; rfl
/-- no divisor below p -/
def NoDiv (n p : Nat) : Prop := ∀ d, 2 ≤ d → d < p → n % d ≠ 0
theorem noDiv_two (n : Nat) : NoDiv n 2 := fun d h1 h2 => by omega
theorem noDiv_le {n p : Nat} (h : NoDiv n p) (hn : ¬ n ≤ 1) : p ≤ n := by
  rcases Nat.lt_or_ge n p with hlt | hge
  · exact absurd (Nat.mod_self n) (h n (by omega) hlt)
  · exact hge
theorem noDiv_skip {n p : Nat} (h : NoDiv n p) (hm : n % p ≠ 0) : NoDiv n (p + 1) := by
  intro d h1 h2
  rcases Nat.lt_succ_iff_lt_or_eq.1 h2 with h2 | rfl
  · exact h d h1 h2
  · exact hm
theorem noDiv_div {n p : Nat} (h : NoDiv n p) (hm : n % p = 0) (h2 : ¬ (n / p) % p = 0) : NoDiv (n / p) (p + 1) := by
  intro d d1 d2
  rcases Nat.lt_succ_iff_lt_or_eq.1 d2 with d2 | rfl
  · intro hd
    refine h d d1 d2 ?_
    have h3 : d ∣ n / p := Nat.dvd_of_mod_eq_zero hd
    have h4 : n / p ∣ n := Nat.div_dvd_of_dvd (Nat.dvd_of_mod_eq_zero hm)
    exact Nat.mod_eq_zero_of_dvd (Nat.dvd_trans h3 h4)
  · exact h2

/-- the sum over the divisors 1 .. d -/
def clS (K n : Nat) : Nat → Int
  | 0 => 0
  | d + 1 => clS K n d + if n % (d + 1) = 0 then mobius (d + 1) * ((K ^ (n / (d + 1)) : Nat) : Int) else 0
/-- the primitive words of m letters, less those counted up to d -/
def px (K m : Nat) (L : List Int) : Nat → Int
  | 0 => ((K ^ m : Nat) : Int)
  | d + 1 => px K m L d - if m % (d + 1) = 0 then L.getD (d + 1) 0 else 0
def primL (K : Nat) : Nat → List Int
  | 0 => [0]
  | m + 1 => primL K m ++ [px K (m + 1) (primL K m) m]
theorem primL_succ (K m : Nat) : primL K (m + 1) = primL K m ++ [px K (m + 1) (primL K m) m] := rfl
theorem primL_len (K : Nat) : ∀ m, (primL K m).length = m + 1
  | 0 => rfl
  | m + 1 => by simp [primL, primL_len K m]
def small (x : Int) : Bool := decide (-1000000000 ≤ x) && decide (x ≤ 1000000000)
theorem small_iff {x : Int} : small x = true ↔ -1000000000 ≤ x ∧ x ≤ 1000000000 := by simp [small]
theorem cl_table : ((List.range 5).all fun K => (List.range 13).all fun n => (List.range 13).all fun d => small (clS K n d) && small (if n % (d + 1) = 0 then mobius (d + 1) * ((K ^ (n / (d + 1)) : Nat) : Int) else 0)) = true := by decide +kernel
theorem px_table : ((List.range 5).all fun K => (List.range 13).all fun n => (List.range 13).all fun d => small (px K (n + 1) (primL K n) d) && small ((primL K n).getD (d + 1) 0)) = true := by decide +kernel
theorem cl_eq_table : ((List.range 5).all fun K => (List.range 12).all fun n => decide (clS K (n + 1) (n + 1) = (primL K (n + 1)).getD (n + 1) 0)) = true := by decide +kernel
theorem tab3 {f : Nat → Nat → Nat → Bool} {A B C : Nat} (h : ((List.range A).all fun K => (List.range B).all fun n => (List.range C).all fun d => f K n d) = true) {K n d : Nat} (hK : K < A) (hn : n < B) (hd : d < C) : f K n d = true := by
  simp only [List.all_eq_true, List.mem_range] at h
  exact h K hK n hn d hd
theorem tab2 {f : Nat → Nat → Bool} {A B : Nat} (h : ((List.range A).all fun K => (List.range B).all fun n => f K n) = true) {K n : Nat} (hK : K < A) (hn : n < B) : f K n = true := by
  simp only [List.all_eq_true, List.mem_range] at h
  exact h K hK n hn
theorem cl_small {K n d : Nat} (hK : K ≤ 4) (hn : n ≤ 12) (hd : d ≤ 12) : (-1000000000 ≤ clS K n d ∧ clS K n d ≤ 1000000000) ∧ -1000000000 ≤ (if n % (d + 1) = 0 then mobius (d + 1) * ((K ^ (n / (d + 1)) : Nat) : Int) else 0) ∧ (if n % (d + 1) = 0 then mobius (d + 1) * ((K ^ (n / (d + 1)) : Nat) : Int) else 0) ≤ 1000000000 := by
  have := tab3 cl_table (show K < 5 by omega) (show n < 13 by omega) (show d < 13 by omega)
  rw [Bool.and_eq_true, small_iff, small_iff] at this
  exact this
theorem px_small {K m d : Nat} (hK : K ≤ 4) (hn : m ≤ 12) (hd : d ≤ 12) : (-1000000000 ≤ px K (m + 1) (primL K m) d ∧ px K (m + 1) (primL K m) d ≤ 1000000000) ∧ -1000000000 ≤ (primL K m).getD (d + 1) 0 ∧ (primL K m).getD (d + 1) 0 ≤ 1000000000 := by
  have := tab3 px_table (show K < 5 by omega) (show m < 13 by omega) (show d < 13 by omega)
  rw [Bool.and_eq_true, small_iff, small_iff] at this
  exact this
theorem cl_eq {K n : Nat} (hK : K ≤ 4) (hn : n ≤ 12) (h1 : 1 ≤ n) : clS K n n = (primL K n).getD n 0 := by
  have := tab2 cl_eq_table (show K < 5 by omega) (show n - 1 < 12 by omega)
  rw [show n - 1 + 1 = n by omega] at this
  exact of_decide_eq_true this
def clOk (K n : Int) : Bool := inB K 1 4 && inB n 1 12
theorem clOk_iff {K n : Int} : clOk K n = true ↔ 1 ≤ K ∧ K ≤ 4 ∧ 1 ≤ n ∧ n ≤ 12 := by simp only [clOk, Bool.and_eq_true, inB_iff]; omega
def clW (K n : Int) : Int := if clOk K n = true then (clS K.toNat n.toNat n.toNat).tdiv n else -1

/-! ### the walks -/
set_option maxHeartbeats 1000000 in
theorem mobius_c (n : Nat) (w : World) (h1 : 1 ≤ n) (hn : n ≤ 12) :
    Calls Try.prog 98 #[.int .i64 (n : Int)] w fun e w' => e = .returned (.int .i64 (mobius n)) ∧ w' = w := by
  obtain ⟨R, hR⟩ : ∃ R, R = mobius n := ⟨_, rfl⟩
  have hst : Hid (mob 12 n 2 1 = R) := hR.symm
  rw [← hR]
  clear hR
  go_enter Try.func98, Try.ntmps98
  go_wp2
  go_loop [0, 3, 4] (fun a o b => ∃ (m p f : Nat) (out : Int), 1 ≤ m ∧ m ≤ 12 ∧ 2 ≤ p ∧ p + f = 14 ∧ a = .int .i64 m ∧ b = .int .i64 p ∧ o = .int .i64 out ∧ -1 ≤ out ∧ out ≤ 1 ∧ Hid (NoDiv m p) ∧ Hid (mob f m p out = R)) (fun _ _ b => 14 - (intOf b).toNat)
  case atStart => exact ⟨n, 2, 12, 1, h1, hn, by omega, by omega, rfl, rfl, rfl, by omega, by omega, noDiv_two n, hst⟩
  case round =>
    obtain ⟨m, p, f, out, hm1, hm, hp, hpf, rfl, rfl, rfl, ho1, ho2, hnd, hg⟩ := hrel
    by_cases hle : m ≤ 1
    · have hfin : Hid (out = R) := by rw [← hg.out, mob_done hle]; rfl
      go_wp2
      go_ret
      exact ⟨ret_int hfin.out, rfl⟩
    · have hpm := noDiv_le hnd.out hle
      have hpz : ((p : Int) == 0) = false := by simp; omega
      obtain ⟨r, hr⟩ : ∃ r : Nat, r = m % p := ⟨_, rfl⟩
      have e1 : (m : Int).tmod (p : Int) = (r : Int) := by rw [hr]; exact modcast m p
      have e2 : (m : Int) % (p : Int) = (r : Int) := by rw [hr]; exact modcast' m p
      by_cases hr0 : r = 0
      · have hr0' : ((r : Int) != 0) = false := by simp [hr0]
        obtain ⟨t, ht⟩ : ∃ t : Nat, t = m / p := ⟨_, rfl⟩
        have htl : t ≤ m := by rw [ht]; exact Nat.div_le_self _ _
        have ht1 : 1 ≤ t := by rw [ht]; exact (Nat.one_le_div_iff (by omega)).2 hpm
        have e3 : (m : Int).tdiv (p : Int) = (t : Int) := by rw [ht]; exact divcast m p
        have e4 : (m : Int) / (p : Int) = (t : Int) := by rw [ht]; exact divcast' m p
        obtain ⟨r2, hr2⟩ : ∃ r : Nat, r = t % p := ⟨_, rfl⟩
        have e5 : (t : Int).tmod (p : Int) = (r2 : Int) := by rw [hr2]; exact modcast t p
        have e6 : (t : Int) % (p : Int) = (r2 : Int) := by rw [hr2]; exact modcast' t p
        by_cases hq : r2 = 0
        · have hq' : ((r2 : Int) == 0) = true := by simp [hq]
          have hfin : Hid (R = 0) := by rw [Hid, ← hg.out, mob_zero (by omega) hle (hr ▸ hr0) (by rw [← ht, ← hr2]; exact hq)]
          clear hr ht hr2 hr0 hq
          go_wp2
          go_ret
          exact ⟨ret_int (by rw [hfin.out]), rfl⟩
        · have hq' : ((r2 : Int) == 0) = false := by simp; omega
          have hnx : Hid (mob (f - 1) t (p + 1) (-out) = R) := by rw [Hid, ← hg.out, mob_div (f := f) (by omega) hle (hr ▸ hr0) (by rw [← ht, ← hr2]; exact hq), ht]
          have hnd2 : Hid (NoDiv t (p + 1)) := by rw [ht]; exact noDiv_div hnd.out (hr ▸ hr0) (by rw [← ht, ← hr2]; exact hq)
          clear hr ht hr2 hr0 hq
          go_wp2
          go_round
          case rel => exact ⟨t, p + 1, f - 1, -out, ht1, by omega, by omega, by omega, rfl, by go_num, rfl, by omega, by omega, hnd2, hnx⟩
          case measure => simp [intOf] <;> omega
      · have hr0' : ((r : Int) != 0) = true := bne_iff_ne.2 (by omega)
        have hnx : Hid (mob (f - 1) m (p + 1) out = R) := by rw [Hid, ← hg.out, mob_skip (f := f) (by omega) hle (by rw [← hr]; exact hr0)]
        have hnd2 : Hid (NoDiv m (p + 1)) := noDiv_skip hnd.out (by rw [← hr]; exact hr0)
        clear hr hr0
        go_wp2
        go_round
        case rel => exact ⟨m, p + 1, f - 1, out, hm1, hm, by omega, by omega, rfl, by go_num, rfl, ho1, ho2, hnd2, hnx⟩
        case measure => simp [intOf] <;> omega

theorem pow_small {K k : Nat} (hK : K ≤ 4) (hk : k ≤ 12) : K ^ k ≤ 16777216 :=
  Nat.le_trans (Nat.pow_le_pow_left hK k) (Nat.le_trans (Nat.pow_le_pow_right (by omega) hk) (by decide))

set_option maxHeartbeats 400000 in
theorem power_c (K n : Nat) (w : World) (hK : K ≤ 4) (hn : n ≤ 12) :
    Calls Try.prog 99 #[.int .i64 (K : Int), .int .i64 (n : Int)] w fun e w' => e = .returned (.int .i64 ((K ^ n : Nat) : Int)) ∧ w' = w := by
  go_enter Try.func99, Try.ntmps99
  go_wp2
  go_loop [5, 7] (fun a i => ∃ k v : Nat, k ≤ n ∧ i = .int .i64 k ∧ a = .int .i64 v ∧ Hid (v = K ^ k)) (fun _ i => n - (intOf i).toNat)
  case atStart => exact ⟨0, 1, Nat.zero_le _, rfl, rfl, rfl⟩
  case round =>
    obtain ⟨k, v, hk, rfl, rfl, hv⟩ := hrel
    have hvb : v ≤ 16777216 := by rw [hv.out]; exact pow_small hK (by omega)
    by_cases hlt : k < n
    · obtain ⟨z, hz⟩ : ∃ z : Nat, z = v * K := ⟨_, rfl⟩
      have hzi : (v : Int) * (K : Int) = (z : Int) := by rw [hz, Int.natCast_mul]
      have hzv : z = K ^ (k + 1) := by rw [hz, hv.out, Nat.pow_succ]
      have hzb : z ≤ 16777216 := by rw [hzv]; exact pow_small hK (by omega)
      have e1 : IntKind.i64.wrap ((v : Int) * (K : Int)) = (z : Int) := by rw [hzi]; exact IntWalk.i64_in _ (by omega)
      have HZ := Lib.hid hzv
      clear hz hzv
      go_wp2
      go_round
      case rel => exact ⟨k + 1, z, by omega, by go_num, rfl, HZ⟩
      case measure => simp [intOf] <;> omega
    · have hfin : Hid ((v : Int) = ((K ^ n : Nat) : Int)) := by rw [hv.out, show k = n by omega]; rfl
      go_wp2
      go_ret
      exact ⟨ret_int hfin.out, rfl⟩

theorem tdiv_bd {x : Int} {b : Nat} (hb : 1 ≤ b) (hx : -1000000000 ≤ x ∧ x ≤ 1000000000) : -1000000000 ≤ x.tdiv (b : Int) ∧ x.tdiv (b : Int) ≤ 1000000000 := by
  have h : (x.tdiv (b : Int)).natAbs ≤ x.natAbs := by rw [Int.natAbs_tdiv]; exact Nat.div_le_self _ _
  omega
theorem wrap64_same {x : Int} (h : -1000000000 ≤ x ∧ x ≤ 1000000000) : wrap64 x = x := IntWalk.wrap64_in x (by omega)

set_option maxHeartbeats 1000000 in
theorem countLyndon_i (K n : Int) (w : World) :
    Calls Try.prog 37 #[.int .i64 K, .int .i64 n] w fun e w' => e = .returned (.int .i64 (clW K n)) ∧ Below w.heap.size w w' := by
  by_cases hok : clOk K n = true
  · have hb := clOk_iff.1 hok
    have h1 : inB K 1 4 = true := inB_iff.2 (by omega)
    have h2 : inB n 1 12 = true := inB_iff.2 (by omega)
    obtain ⟨a, rfl⟩ : ∃ a : Nat, K = a := ⟨K.toNat, by omega⟩
    obtain ⟨b, rfl⟩ : ∃ b : Nat, n = b := ⟨n.toNat, by omega⟩
    have hr : Hid (clW a b = (clS a b b).tdiv b) := by unfold Hid clW; rw [if_pos hok]; rfl
    have ha : a ≤ 4 := by omega
    have hb2 : b ≤ 12 := by omega
    have hb1 : 1 ≤ b := by omega
    have hbz : ((b : Int) == 0) = false := by simp; omega
    clear hok
    go_enter Try.func37, Try.ntmps37
    go_wp2_with (go_at_call 88; refine (within_c _ _ _ _).mono ?_; rintro e w' ⟨rfl, rfl⟩)
    go_loopw [5, 6] (fun o i wr => ∃ (k : Nat) (v : Int), k ≤ b ∧ i = .int .i64 ((k : Int) + 1) ∧ o = .int .i64 v ∧ Hid (v = clS a b k) ∧ Below w.heap.size w wr) (fun _ i _ => b + 1 - (intOf i).toNat)
    case atStart => exact ⟨0, 0, Nat.zero_le _, rfl, rfl, rfl, Below.refl _ _⟩
    case round =>
      obtain ⟨k, v, hk, rfl, rfl, hv, hbw⟩ := hrel
      have hsm := cl_small (K := a) (n := b) (d := k) ha hb2 (by omega)
      rw [← hv.out] at hsm
      have hv1 := hsm.1
      by_cases hlt : k < b
      · obtain ⟨r, hr'⟩ : ∃ r : Nat, r = b % (k + 1) := ⟨_, rfl⟩
        have hkz : ((k : Int) + 1 == 0) = false := by simp; omega
        have e1 : (b : Int).tmod ((k : Int) + 1) = (r : Int) := by rw [hr']; exact modcast b (k + 1)
        have e2 : (b : Int) % ((k : Int) + 1) = (r : Int) := by rw [hr']; exact modcast' b (k + 1)
        by_cases hr0 : r = 0
        · have hr0' : ((r : Int) == 0) = true := by simp [hr0]
          obtain ⟨t, ht⟩ : ∃ t : Nat, t = b / (k + 1) := ⟨_, rfl⟩
          have htl : t ≤ b := by rw [ht]; exact Nat.div_le_self _ _
          have e3 : (b : Int).tdiv ((k : Int) + 1) = (t : Int) := by rw [ht]; exact divcast b (k + 1)
          have e4 : (b : Int) / ((k : Int) + 1) = (t : Int) := by rw [ht]; exact divcast' b (k + 1)
          have e5 : IntKind.i64.wrap (t : Int) = (t : Int) := IntWalk.i64_in _ (by omega)
          obtain ⟨x, hx⟩ : ∃ x, x = mobius (k + 1) := ⟨_, rfl⟩
          obtain ⟨y, hy⟩ : ∃ y : Nat, y = a ^ t := ⟨_, rfl⟩
          obtain ⟨z, hz⟩ : ∃ z : Int, z = x * (y : Int) := ⟨_, rfl⟩
          have hz2 := hsm.2
          rw [if_pos (by rw [← hr']; exact hr0), ← hx, ← ht, ← hy, ← hz] at hz2
          have e6 : IntKind.i64.wrap (x * (y : Int)) = z := by rw [← hz]; exact IntWalk.i64_in _ (by omega)
          have e7 : IntKind.i64.wrap (v + z) = v + z := IntWalk.i64_in _ (by omega)
          have hc1 := fun W => Lib.hid (mobius_c (k + 1) W (by omega) (by omega))
          have hc2 := fun W => Lib.hid (power_c a t W ha (by omega))
          rw [← hx] at hc1
          rw [← hy] at hc2
          have hnx : Hid (v + z = clS a b (k + 1)) := by unfold Hid clS; rw [if_pos (by rw [← hr']; exact hr0), ← hx, ← ht, ← hy, ← hz, ← hv.out]
          clear hr' hr0 ht hx hy hz hsm
          go_wp2
          go_quiet ((first | (go_at_call 98; exact Calls.quiet_of_same (hc1 _).out) | (go_at_call 99; exact Calls.quiet_of_same (hc2 _).out)))
          go_wp2
          go_roundw
          case rel => exact ⟨k + 1, v + z, by omega, by go_num, rfl, hnx, below_drewN hbw _⟩
          case measure => simp [intOf] <;> omega
        · have hr0' : ((r : Int) == 0) = false := by simp; omega
          have hnx : Hid (v = clS a b (k + 1)) := by unfold Hid clS; rw [if_neg (by rw [← hr']; exact hr0), ← hv.out, Int.add_zero]
          clear hr' hr0 hsm
          go_wp2
          go_roundw
          case rel => exact ⟨k + 1, v, by omega, by go_num, rfl, hnx, hbw⟩
          case measure => simp [intOf] <;> omega
      · have hfin : Hid (v.tdiv (b : Int) = clW a b) := by rw [hr.out, hv.out, show k = b by omega]; rfl
        have hdv := tdiv_bd (x := v) (b := b) hb1 hv1
        have e8 : IntKind.i64.wrap (v.tdiv (b : Int)) = v.tdiv (b : Int) := IntWalk.i64_in _ (by omega)
        have e9 := wrap64_same hdv
        clear hsm
        go_wp2
        go_ret
        exact ⟨ret_int (by first | exact hfin.out | (rw [e9]; exact hfin.out)), hbw⟩
  · have hr : Hid (clW K n = -1) := if_neg hok
    have ht : Hid (inB K 1 4 = true → (!inB n 1 12) = false → False) := fun a b => hok (by simp only [Bool.not_eq_false'] at b; simp [clOk, a, b])
    clear hok
    go_enter Try.func37, Try.ntmps37
    go_wp2_with (go_at_call 88; refine (within_c _ _ _ _).mono ?_; rintro e w' ⟨rfl, rfl⟩)
    all_goals first | exact (ht.out (by assumption) (by assumption)).elim | (go_ret; exact ⟨ret_int hr.out.symm, Below.refl _ _⟩)

theorem own_shape6 {w : World} {B : Nat} {v : Value} {l : List Int} (h : OwnI w B v l) (hl : 1 ≤ l.length) : ∃ g cap, v = .slice (some ⟨g, 0, none⟩) l.length cap := by
  rcases h.2 with ⟨_, h0⟩ | ⟨g, cap, cur, rfl, _⟩
  · omega
  · exact ⟨g, cap, rfl⟩
theorem own_cap {w : World} {B g n cap : Nat} {l : List Int} (h : OwnI w B (.slice (some ⟨g, 0, none⟩) n cap) l) : n ≤ cap := by
  rcases h.2 with ⟨h0, _⟩ | ⟨g', cap', cur, he, _, _, hc, _⟩
  · cases h0
  · cases he; exact hc
theorem own_get {w : World} {B g n cap : Nat} {l : List Int} (h : OwnI w B (.slice (some ⟨g, 0, none⟩) n cap) l) {j : Nat} (hj : j < l.length) : w.cell? ⟨g, j, none⟩ = some (.int .i64 (l.getD j 0)) := by
  rcases (OwnI.rd h) with ⟨h0, _⟩ | ⟨g', cap', he, _, hc⟩
  · cases h0
  · cases he
    have := hc j (l.getD j 0) (by rw [List.getD_eq_getElem?_getD, List.getElem?_eq_getElem hj]; rfl)
    exact this
theorem ownI_one {B : Nat} (w : World) (hb : B ≤ w.heap.size) (x : Int) : OwnI (w.alloc (.cells #[.int .i64 x] 3)) B (.slice (some ⟨w.heap.size, 0, none⟩) 1 1) [x] :=
  World.ownsRow_lit w #[.int .i64 x] 1 hb (by decide) rfl

end Go.Proofs.Ytlmciomoimfajaa
