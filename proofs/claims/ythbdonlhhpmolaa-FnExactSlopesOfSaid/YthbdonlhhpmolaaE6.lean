/- Contracts of SlopesOf in the program and in the reference, and the walk of its law. Conditions: none beyond the law's own test of the length. -/
import Derived.Test.YthbdonlhhpmolaaE4
import Derived.Test.YthbdonlhhpmolaaG1
namespace Go.Proofs.Ythbdonlhhpmolaa
open Go.RowKit
set_option linter.unusedVariables false

theorem results_tmp4 {fn : Func} {t u v x : Tmp} (h : fn.results = #[.tmp t, .tmp u, .tmp v, .tmp x]) (tmps : Array Value) (P : Program) (w : World) :
    (results fn tmps).run P w = .ok (.tuple #[tmps.getD t undef, tmps.getD u undef, tmps.getD v undef, tmps.getD x undef]) w := by
  simp [results, h]
theorem ret_4 {a b c d a' b' c' d' : Int} (h1 : a = a') (h2 : b = b') (h3 : c = c') (h4 : d = d') : Ending.returned (.tuple #[.int .i64 a, .int .i64 b, .int .i64 c, .int .i64 d]) = .returned (.tuple #[.int .i64 a', .int .i64 b', .int .i64 c', .int .i64 d']) := by rw [h1, h2, h3, h4]

structure Sl where
  a : Int
  b : Nat
  c : Nat
  d : Nat
/-- one more length: 'lo' and 'hi' letters b -/
def slStep (st : Sl) (lo hi n : Nat) : Sl :=
  ⟨if st.a * (n : Int) < ((hi : Int) - 1) * (st.b : Int) then (hi : Int) - 1 else st.a, if st.a * (n : Int) < ((hi : Int) - 1) * (st.b : Int) then n else st.b,
   if ((lo : Int) + 1) * (st.d : Int) < (st.c : Int) * (n : Int) then lo + 1 else st.c, if ((lo : Int) + 1) * (st.d : Int) < (st.c : Int) * (n : Int) then n else st.d⟩
def slTo (s : ByteArray) (st : Sl) : Nat → Sl
  | 0 => st
  | n + 1 => slStep (slTo s st n) (lowOf s (n + 1)) (highOf s (n + 1)) (n + 1)
def sl1 : Sl := ⟨-2, 1, 3, 1⟩
def sl2 : Sl := ⟨-1, 1, 2, 1⟩
theorem lowOf_le (s : ByteArray) (n : Nat) : lowOf s n ≤ n := lowTo_le _ _ _
theorem highOf_le (s : ByteArray) (n : Nat) : highOf s n ≤ n := highTo_le _ _ _
theorem sl_one (lo hi : Nat) (h1 : lo ≤ 1) (h2 : hi ≤ 1) : slStep sl1 lo hi 1 = slStep sl2 lo hi 1 := by
  rcases (show lo = 0 ∨ lo = 1 by omega) with rfl | rfl <;> rcases (show hi = 0 ∨ hi = 1 by omega) with rfl | rfl <;> rfl
theorem sl_same (s : ByteArray) : ∀ n, slTo s sl1 (n + 1) = slTo s sl2 (n + 1)
  | 0 => sl_one _ _ (lowOf_le s 1) (highOf_le s 1)
  | n + 1 => by rw [slTo, sl_same s n]; rfl
structure SlOk (st : Sl) : Prop where
  a0 : -2 ≤ st.a
  a1 : st.a ≤ 60
  b0 : 1 ≤ st.b
  b1 : st.b ≤ 60
  c0 : 1 ≤ st.c
  c1 : st.c ≤ 61
  d0 : 1 ≤ st.d
  d1 : st.d ≤ 60
theorem sl_ok {s : ByteArray} {st : Sl} (h : SlOk st) : ∀ n, n ≤ 60 → SlOk (slTo s st n)
  | 0, _ => h
  | n + 1, hn => by
    have ih := sl_ok (s := s) h n (by omega)
    have h1 := lowOf_le s (n + 1)
    have h2 := highOf_le s (n + 1)
    obtain ⟨i1, i2, i3, i4, i5, i6, i7, i8⟩ := ih
    refine ⟨?_, ?_, ?_, ?_, ?_, ?_, ?_, ?_⟩ <;> (simp only [slTo, slStep]; split <;> omega)
theorem mulb {x y : Int} (h1 : -100 ≤ x) (h2 : x ≤ 100) (h3 : 0 ≤ y) (h4 : y ≤ 100) : -10000 ≤ x * y ∧ x * y ≤ 10000 := by
  have a := Int.mul_le_mul_of_nonneg_right h2 h3
  have b := Int.mul_le_mul_of_nonneg_right h1 h3
  omega
theorem mulw {x y : Int} (h1 : -100 ≤ x) (h2 : x ≤ 100) (h3 : 0 ≤ y) (h4 : y ≤ 100) : IntKind.i64.wrap (x * y) = x * y := by
  have := mulb h1 h2 h3 h4
  exact IntWalk.i64_in _ (by omega)
theorem tdivw {x : Int} {g : Nat} (h1 : -100 ≤ x) (h2 : x ≤ 100) : IntKind.i64.wrap (x.tdiv (g : Int)) = x.tdiv (g : Int) := by
  have h : (x.tdiv (g : Int)).natAbs = x.natAbs / g := by rw [Int.natAbs_tdiv]; rfl
  have h3 := Nat.div_le_self x.natAbs g
  exact IntWalk.i64_in _ (by omega)
theorem absmax (x : Int) : max x (-x) = ((x.natAbs : Nat) : Int) := by omega

def slOk (s : ByteArray) : Bool := binB s && decide (1 ≤ s.size ∧ s.size ≤ 60)
def slEnd (s : ByteArray) : Sl := slTo s sl2 s.size
def slG (st : Sl) : Nat := Nat.gcd st.a.natAbs st.b
def slH (st : Sl) : Nat := Nat.gcd st.c st.d
def slA (s : ByteArray) : Int := if slOk s = true then (slEnd s).a.tdiv (slG (slEnd s) : Int) else 0
def slB (s : ByteArray) : Int := if slOk s = true then ((slEnd s).b : Int).tdiv (slG (slEnd s) : Int) else 0
def slC (s : ByteArray) : Int := if slOk s = true then ((slEnd s).c : Int).tdiv (slH (slEnd s) : Int) else 0
def slD (s : ByteArray) : Int := if slOk s = true then ((slEnd s).d : Int).tdiv (slH (slEnd s) : Int) else 0

/-- the states of the loop -/
def SlAt (s : ByteArray) (st0 : Sl) (k : Nat) (a : Int) (b c d : Nat) : Prop := (⟨a, b, c, d⟩ : Sl) = slTo s st0 k
theorem slAt_ok {s : ByteArray} {st0 : Sl} {k : Nat} {a : Int} {b c d : Nat} (h0 : SlOk st0) (h : SlAt s st0 k a b c d) (hk : k ≤ 60) : SlOk ⟨a, b, c, d⟩ := by
  rw [h]; exact sl_ok h0 k hk
theorem slAt_next {s : ByteArray} {st0 : Sl} {k : Nat} {a : Int} {b c d lo hi : Nat} (h : SlAt s st0 k a b c d) (hlo : lo = lowOf s (k + 1)) (hhi : hi = highOf s (k + 1)) {a' : Int} {b' c' d' : Nat}
    (h' : slStep ⟨a, b, c, d⟩ lo hi (k + 1) = ⟨a', b', c', d'⟩) : SlAt s st0 (k + 1) a' b' c' d' := by
  unfold SlAt at h ⊢
  rw [slTo, ← h, ← hlo, ← hhi, h']
theorem sl1_ok : SlOk sl1 := ⟨by decide, by decide, by decide, by decide, by decide, by decide, by decide, by decide⟩
theorem sl2_ok : SlOk sl2 := ⟨by decide, by decide, by decide, by decide, by decide, by decide, by decide, by decide⟩

set_option maxHeartbeats 400000 in
theorem isShort_c (s : ByteArray) (w : World) (hs : s.size ≤ 1073741824) :
    Calls Try.prog 79 #[.string s] w fun e w' => e = .returned (.bool (wordL s.data.toList && decide (s.size ≤ 60))) ∧ w = w' := by
  have h1 := fun W => Lib.hid (isWord_c s W (by unfold maxLen; omega))
  cases hw : wordL s.data.toList
  · rw [hw] at h1
    go_enter Try.func79, Try.ntmps79
    go_wp2_with fail
    refine (h1 _).out.mono ?_
    rintro e w' ⟨rfl, rfl⟩
    go_wp2_with fail
    go_ret
    exact ⟨rfl, rfl⟩
  · rw [hw] at h1
    have hd : decide ((s.size : Int) ≤ 60) = decide (s.size ≤ 60) := by rw [decide_eq_decide]; omega
    by_cases hle : s.size ≤ 60
    all_goals
      have hd2 : Hid (decide (s.size ≤ 60) = decide (s.size ≤ 60)) := rfl
      go_enter Try.func79, Try.ntmps79
      go_wp2_with fail
      refine (h1 _).out.mono ?_
      rintro e w' ⟨rfl, rfl⟩
      go_wp2_with fail
      go_ret
      exact ⟨ret_bool (by simp [hle] <;> omega), rfl⟩

set_option maxHeartbeats 4000000 in
theorem slopesOf_i (s : ByteArray) (w : World) (hs : s.size ≤ 1073741000) :
    Calls Try.prog 37 #[.string s] w fun e w' => e = .returned (.tuple #[.int .i64 (slA s), .int .i64 (slB s), .int .i64 (slC s), .int .i64 (slD s)]) ∧ Below w.heap.size w w' := by
  have h1 := fun W => Lib.hid (isBinary_i s W (by omega))
  have h2 := fun W => Lib.hid (isShort_c s W (by omega))
  cases hok : slOk s
  · have r1 : Hid (slA s = 0) := by simp [slA, hok, Hid]
    have r2 : Hid (slB s = 0) := by simp [slB, hok, Hid]
    have r3 : Hid (slC s = 0) := by simp [slC, hok, Hid]
    have r4 : Hid (slD s = 0) := by simp [slD, hok, Hid]
    cases hb : binB s
    · rw [hb] at h1
      go_enter Try.func37, Try.ntmps37
      go_wp2_with fail
      refine (h1 _).out.mono ?_
      rintro e w' ⟨rfl, hbl⟩
      go_wp2_with fail
      ((try simp only [Exit.inBlock, Exit.then]); refine bodyPost_ret (results_tmp4 rfl _ _ _) rfl ?_)
      exact ⟨ret_4 r1.out.symm r2.out.symm r3.out.symm r4.out.symm, hbl⟩
    · have hw : wordL s.data.toList = true := by unfold binB at hb; simp only [Bool.and_eq_true] at hb; exact hb.1
      rw [hb] at h1
      by_cases hsh : s.size ≤ 60
      · rw [hw, decide_eq_true hsh] at h2
        have he : s.size = 0 := by simp [slOk, hb] at hok; omega
        have hq : (s.toList == (⟨#[]⟩ : ByteArray).toList) = true := by
          rw [Lib.toList_data, Lib.toList_data]
          have : s.data.toList = [] := List.eq_nil_of_length_eq_zero (by rw [← size_len]; exact he)
          rw [this]; rfl
        have hq2 : s.toList.isEmpty = true := by rw [Lib.toList_data, List.isEmpty_iff]; exact List.eq_nil_of_length_eq_zero (by rw [← size_len]; exact he)
        clear hok he
        go_enter Try.func37, Try.ntmps37
        go_wp2_with fail
        refine (h1 _).out.mono ?_
        rintro e w' ⟨rfl, hbl⟩
        go_wp2_with fail
        refine (h2 _).out.mono ?_
        rintro e w' ⟨rfl, rfl⟩
        go_wp2_with fail
        ((try simp only [Exit.inBlock, Exit.then]); refine bodyPost_ret (results_tmp4 rfl _ _ _) rfl ?_)
        exact ⟨ret_4 r1.out.symm r2.out.symm r3.out.symm r4.out.symm, hbl⟩
      · rw [hw, decide_eq_false hsh] at h2
        go_enter Try.func37, Try.ntmps37
        go_wp2_with fail
        refine (h1 _).out.mono ?_
        rintro e w' ⟨rfl, hbl⟩
        go_wp2_with fail
        refine (h2 _).out.mono ?_
        rintro e w' ⟨rfl, rfl⟩
        go_wp2_with fail
        ((try simp only [Exit.inBlock, Exit.then]); refine bodyPost_ret (results_tmp4 rfl _ _ _) rfl ?_)
        exact ⟨ret_4 r1.out.symm r2.out.symm r3.out.symm r4.out.symm, hbl⟩
  · obtain ⟨hb, hz1, hz2⟩ : binB s = true ∧ 1 ≤ s.size ∧ s.size ≤ 60 := by simpa [slOk] using hok
    have hw : wordL s.data.toList = true := by unfold binB at hb; simp only [Bool.and_eq_true] at hb; exact hb.1
    have r1 : Hid (slA s = (slEnd s).a.tdiv (slG (slEnd s) : Int)) := if_pos hok
    have r2 : Hid (slB s = ((slEnd s).b : Int).tdiv (slG (slEnd s) : Int)) := if_pos hok
    have r3 : Hid (slC s = ((slEnd s).c : Int).tdiv (slH (slEnd s) : Int)) := if_pos hok
    have r4 : Hid (slD s = ((slEnd s).d : Int).tdiv (slH (slEnd s) : Int)) := if_pos hok
    rw [hb] at h1
    rw [hw, decide_eq_true hz2] at h2
    have hq2 : s.toList.isEmpty = false := by
      cases hx : s.toList.isEmpty with
      | false => rfl
      | true => rw [Lib.toList_data, List.isEmpty_iff] at hx; rw [size_len, hx] at hz1; exact absurd hz1 (by decide)
    have hq : (s.toList == (⟨#[]⟩ : ByteArray).toList) = false := by
      rw [Lib.toList_data] at hq2 ⊢
      rw [Lib.toList_data]
      cases hl : s.data.toList with
      | nil => rw [hl] at hq2; cases hq2
      | cons _ _ => rfl
    have hst : Hid (SlAt s sl1 0 (-2) 1 3 1) := rfl
    clear hok hb hw
    go_enter Try.func37, Try.ntmps37
    go_wp2_with fail
    refine (h1 _).out.mono ?_
    rintro e w' ⟨rfl, hbl⟩
    have HB := Lib.hid hbl
    clear hbl
    go_wp2_with fail
    refine (h2 _).out.mono ?_
    rintro e w' ⟨rfl, rfl⟩
    go_wp2_with fail
    go_loop [6, 7, 8, 9, 10] (fun va vb vc vd vn => ∃ (k : Nat) (a : Int) (b c d : Nat), k ≤ s.size ∧ vn = .int .i64 ((k : Int) + 1) ∧ va = .int .i64 a ∧ vb = .int .i64 b ∧ vc = .int .i64 c ∧ vd = .int .i64 d ∧ Hid (SlAt s sl1 k a b c d)) (fun _ _ _ _ n => s.size + 1 - (intOf n).toNat)
    case atStart => exact ⟨0, -2, 1, 3, 1, by omega, rfl, rfl, rfl, rfl, rfl, hst⟩
    case round =>
      obtain ⟨k, a, b, c, d, hk, rfl, rfl, rfl, rfl, rfl, hat⟩ := hrel
      obtain ⟨a0, a1, b0, b1, c0, c1, d0, d1⟩ := slAt_ok sl1_ok hat.out (by omega)
      simp only at a0 a1 b0 b1 c0 c1 d0 d1
      by_cases hlt : k < s.size
      · obtain ⟨n, hn⟩ : ∃ n : Nat, n = k + 1 := ⟨_, rfl⟩
        have hni : (k : Int) + 1 = (n : Int) := by omega
        rw [hni]
        obtain ⟨lo, hlo⟩ : ∃ lo, lo = lowOf s n := ⟨_, rfl⟩
        obtain ⟨hi, hhi⟩ : ∃ hi, hi = highOf s n := ⟨_, rfl⟩
        have hlob : lo ≤ n := by rw [hlo]; exact lowTo_le _ _ _
        have hhib : hi ≤ n := by rw [hhi]; exact highTo_le _ _ _
        have h3 := fun W => Lib.hid (spread_c s n W (by omega) (by omega))
        rw [← hlo, ← hhi] at h3
        have hnx := fun a' b' c' d' h' => Lib.hid (slAt_next (lo := lo) (hi := hi) (a' := a') (b' := b') (c' := c') (d' := d') hat.out (by rw [← hn]; exact hlo) (by rw [← hn]; exact hhi) (by rw [← hn]; exact h'))
        have hle : n ≤ s.size := by omega
        have w1 : IntKind.i64.wrap ((hi : Int) - 1) = (hi : Int) - 1 := IntWalk.i64_in _ (by omega)
        have w2 : IntKind.i64.wrap ((lo : Int) + 1) = (lo : Int) + 1 := IntWalk.i64_in _ (by omega)
        have w3 : IntKind.i64.wrap (((hi : Int) - 1) * (b : Int)) = ((hi : Int) - 1) * (b : Int) := mulw (by omega) (by omega) (by omega) (by omega)
        have w4 : IntKind.i64.wrap (a * (n : Int)) = a * (n : Int) := mulw (by omega) (by omega) (by omega) (by omega)
        have w5 : IntKind.i64.wrap (((lo : Int) + 1) * (d : Int)) = ((lo : Int) + 1) * (d : Int) := mulw (by omega) (by omega) (by omega) (by omega)
        have w6 : IntKind.i64.wrap ((c : Int) * (n : Int)) = (c : Int) * (n : Int) := mulw (by omega) (by omega) (by omega) (by omega)
        have hkn := Lib.hid hn
        clear hlo hhi hat hn
        obtain ⟨P1, hP1⟩ : ∃ P, P = decide (a * (n : Int) < ((hi : Int) - 1) * (b : Int)) := ⟨_, rfl⟩
        obtain ⟨P2, hP2⟩ : ∃ P, P = decide (((lo : Int) + 1) * (d : Int) < (c : Int) * (n : Int)) := ⟨_, rfl⟩
        cases P1 <;> cases P2
        · have q1 := of_decide_eq_false hP1.symm
          have q2 := of_decide_eq_false hP2.symm
          have hx := hnx a b c d (by simp only [slStep]; rw [if_neg q1, if_neg q1, if_neg q2, if_neg q2])
          have d1 := hP1.symm
          have d2 := hP2.symm
          clear hnx hP1 hP2 q1 q2
          go_wp2_with fail
          refine (h3 _).out.mono ?_
          rintro e w' ⟨rfl, rfl⟩
          go_wp2_with fail
          go_round
          case rel => exact ⟨k + 1, a, b, c, d, by omega, by have := hkn.out; go_num, rfl, rfl, rfl, rfl, hx⟩
          case measure => simp [intOf] <;> omega
        · have q1 := of_decide_eq_false hP1.symm
          have q2 := of_decide_eq_true hP2.symm
          have hx := hnx a b (lo + 1) n (by simp only [slStep]; rw [if_neg q1, if_neg q1, if_pos q2, if_pos q2])
          have d1 := hP1.symm
          have d2 := hP2.symm
          clear hnx hP1 hP2 q1 q2
          go_wp2_with fail
          refine (h3 _).out.mono ?_
          rintro e w' ⟨rfl, rfl⟩
          go_wp2_with fail
          go_round
          case rel => exact ⟨k + 1, a, b, lo + 1, n, by omega, by have := hkn.out; go_num, rfl, rfl, by go_num, rfl, hx⟩
          case measure => simp [intOf] <;> omega
        · have q1 := of_decide_eq_true hP1.symm
          have q2 := of_decide_eq_false hP2.symm
          have hx := hnx ((hi : Int) - 1) n c d (by simp only [slStep]; rw [if_pos q1, if_pos q1, if_neg q2, if_neg q2])
          have d1 := hP1.symm
          have d2 := hP2.symm
          clear hnx hP1 hP2 q1 q2
          go_wp2_with fail
          refine (h3 _).out.mono ?_
          rintro e w' ⟨rfl, rfl⟩
          go_wp2_with fail
          go_round
          case rel => exact ⟨k + 1, (hi : Int) - 1, n, c, d, by omega, by have := hkn.out; go_num, rfl, rfl, rfl, rfl, hx⟩
          case measure => simp [intOf] <;> omega
        · have q1 := of_decide_eq_true hP1.symm
          have q2 := of_decide_eq_true hP2.symm
          have hx := hnx ((hi : Int) - 1) n (lo + 1) n (by simp only [slStep]; rw [if_pos q1, if_pos q1, if_pos q2, if_pos q2])
          have d1 := hP1.symm
          have d2 := hP2.symm
          clear hnx hP1 hP2 q1 q2
          go_wp2_with fail
          refine (h3 _).out.mono ?_
          rintro e w' ⟨rfl, rfl⟩
          go_wp2_with fail
          go_round
          case rel => exact ⟨k + 1, (hi : Int) - 1, n, lo + 1, n, by omega, by have := hkn.out; go_num, rfl, rfl, by go_num, rfl, hx⟩
          case measure => simp [intOf] <;> omega
      · have hend : Hid ((⟨a, b, c, d⟩ : Sl) = slEnd s) := by
          have := hat.out
          unfold SlAt at this
          rw [show k = (s.size - 1) + 1 by omega, sl_same, show (s.size - 1) + 1 = s.size by omega] at this
          exact this
        rw [← hend.out] at r1 r2 r3 r4
        obtain ⟨g, hg⟩ : ∃ g, g = Nat.gcd a.natAbs b := ⟨_, rfl⟩
        obtain ⟨h, hh⟩ : ∃ h, h = Nat.gcd c d := ⟨_, rfl⟩
        have g0 : 0 < g := by rw [hg]; exact Nat.gcd_pos_of_pos_right _ (by omega)
        have h0 : 0 < h := by rw [hh]; exact Nat.gcd_pos_of_pos_right _ (by omega)
        have hgc := fun W => Lib.hid (divisor_c a.natAbs b W (by omega) (by omega))
        have hhc := fun W => Lib.hid (divisor_c c d W (by omega) (by omega))
        rw [← hg] at hgc
        rw [← hh] at hhc
        have f1 : Hid (slA s = a.tdiv (g : Int)) := by rw [hg]; exact r1.out
        have f2 : Hid (slB s = (b : Int).tdiv (g : Int)) := by rw [hg]; exact r2.out
        have f3 : Hid (slC s = (c : Int).tdiv (h : Int)) := by rw [hh]; exact r3.out
        have f4 : Hid (slD s = (d : Int).tdiv (h : Int)) := by rw [hh]; exact r4.out
        have z1 : ((g : Int) == 0) = false := by simp; omega
        have z2 : ((h : Int) == 0) = false := by simp; omega
        have wn : IntKind.i64.wrap (-a) = -a := IntWalk.i64_in _ (by omega)
        have wm := absmax a
        obtain ⟨q1, hq1⟩ : ∃ q, q = a.tdiv (g : Int) := ⟨_, rfl⟩
        obtain ⟨q2, hq2'⟩ : ∃ q, q = b / g := ⟨_, rfl⟩
        obtain ⟨q3, hq3⟩ : ∃ q, q = c / h := ⟨_, rfl⟩
        obtain ⟨q4, hq4⟩ : ∃ q, q = d / h := ⟨_, rfl⟩
        have x1 : a.tdiv (g : Int) = q1 := hq1.symm
        have y1 : IntKind.i64.wrap q1 = q1 := by rw [hq1]; exact tdivw (by omega) (by omega)
        have x2 : (b : Int).tdiv (g : Int) = (q2 : Int) := by rw [hq2', Int.tdiv_eq_ediv_of_nonneg (by omega)]; exact (Int.natCast_ediv _ _).symm
        have x2' : (b : Int) / (g : Int) = (q2 : Int) := by rw [hq2']; exact (Int.natCast_ediv _ _).symm
        have x3 : (c : Int).tdiv (h : Int) = (q3 : Int) := by rw [hq3, Int.tdiv_eq_ediv_of_nonneg (by omega)]; exact (Int.natCast_ediv _ _).symm
        have x3' : (c : Int) / (h : Int) = (q3 : Int) := by rw [hq3]; exact (Int.natCast_ediv _ _).symm
        have x4 : (d : Int).tdiv (h : Int) = (q4 : Int) := by rw [hq4, Int.tdiv_eq_ediv_of_nonneg (by omega)]; exact (Int.natCast_ediv _ _).symm
        have x4' : (d : Int) / (h : Int) = (q4 : Int) := by rw [hq4]; exact (Int.natCast_ediv _ _).symm
        have u2 : q2 ≤ 60 := by rw [hq2']; exact Nat.le_trans (Nat.div_le_self _ _) b1
        have u3 : q3 ≤ 61 := by rw [hq3]; exact Nat.le_trans (Nat.div_le_self _ _) c1
        have u4 : q4 ≤ 60 := by rw [hq4]; exact Nat.le_trans (Nat.div_le_self _ _) d1
        have y2 : IntKind.i64.wrap (q2 : Int) = (q2 : Int) := IntWalk.i64_in _ (by omega)
        have y3 : IntKind.i64.wrap (q3 : Int) = (q3 : Int) := IntWalk.i64_in _ (by omega)
        have y4 : IntKind.i64.wrap (q4 : Int) = (q4 : Int) := IntWalk.i64_in _ (by omega)
        rw [x1] at f1
        rw [x2] at f2
        rw [x3] at f3
        rw [x4] at f4
        clear hg hh hq1 hq2' hq3 hq4 r1 r2 r3 r4 hend
        go_wp2_with fail
        refine (hgc _).out.mono ?_
        rintro e w1 ⟨rfl, d1, rfl⟩
        go_wp2_with fail
        refine (hhc _).out.mono ?_
        rintro e w2 ⟨rfl, d2, rfl⟩
        go_wp2_with fail
        go_quiet (fail)
        go_wp2
        ((try simp only [Exit.inBlock, Exit.then]); refine bodyPost_ret (results_tmp4 rfl _ _ _) rfl ?_)
        exact ⟨ret_4 f1.out.symm f2.out.symm f3.out.symm f4.out.symm, below_drewN (below_drewN HB.out _) _⟩
set_option maxHeartbeats 4000000 in
theorem slopesOf_s (s : ByteArray) (w : World) (hs : s.size ≤ 1073741000) :
    Calls Try.prog 36 #[.string s] w fun e w' => e = .returned (.tuple #[.int .i64 (slA s), .int .i64 (slB s), .int .i64 (slC s), .int .i64 (slD s)]) ∧ Below w.heap.size w w' := by
  have h1 := fun W => Lib.hid (isBinary_s s W (by omega))
  have h2 := fun W => Lib.hid (l01In_c s.size 1 60 W)
  cases hok : slOk s
  · have r1 : Hid (slA s = 0) := by simp [slA, hok, Hid]
    have r2 : Hid (slB s = 0) := by simp [slB, hok, Hid]
    have r3 : Hid (slC s = 0) := by simp [slC, hok, Hid]
    have r4 : Hid (slD s = 0) := by simp [slD, hok, Hid]
    cases hb : binB s
    · rw [hb] at h1
      go_enter Try.func36, Try.ntmps36
      go_wp2_with fail
      refine (h1 _).out.mono ?_
      rintro e w' ⟨rfl, rfl⟩
      go_wp2_with fail
      ((try simp only [Exit.inBlock, Exit.then]); refine bodyPost_ret (results_tmp4 rfl _ _ _) rfl ?_)
      exact ⟨ret_4 r1.out.symm r2.out.symm r3.out.symm r4.out.symm, Below.refl _ _⟩
    · rw [hb] at h1
      have hin : inB s.size 1 60 = false := by
        cases h : inB s.size 1 60 with
        | false => rfl
        | true => have := inB_iff.1 h; simp [slOk, hb] at hok; omega
      rw [hin] at h2
      clear hok hb hin
      go_enter Try.func36, Try.ntmps36
      go_wp2_with fail
      refine (h1 _).out.mono ?_
      rintro e w' ⟨rfl, rfl⟩
      go_wp2_with fail
      refine (h2 _).out.mono ?_
      rintro e w' ⟨rfl, rfl⟩
      go_wp2_with fail
      ((try simp only [Exit.inBlock, Exit.then]); refine bodyPost_ret (results_tmp4 rfl _ _ _) rfl ?_)
      exact ⟨ret_4 r1.out.symm r2.out.symm r3.out.symm r4.out.symm, Below.refl _ _⟩
  · obtain ⟨hb, hz1, hz2⟩ : binB s = true ∧ 1 ≤ s.size ∧ s.size ≤ 60 := by simpa [slOk] using hok
    have hin : inB s.size 1 60 = true := inB_iff.2 (by omega)
    have r1 : Hid (slA s = (slEnd s).a.tdiv (slG (slEnd s) : Int)) := if_pos hok
    have r2 : Hid (slB s = ((slEnd s).b : Int).tdiv (slG (slEnd s) : Int)) := if_pos hok
    have r3 : Hid (slC s = ((slEnd s).c : Int).tdiv (slH (slEnd s) : Int)) := if_pos hok
    have r4 : Hid (slD s = ((slEnd s).d : Int).tdiv (slH (slEnd s) : Int)) := if_pos hok
    rw [hb] at h1
    rw [hin] at h2
    have hst : Hid (SlAt s sl2 0 (-1) 1 2 1) := rfl
    clear hok hb hin
    go_enter Try.func36, Try.ntmps36
    go_wp2_with fail
    refine (h1 _).out.mono ?_
    rintro e w' ⟨rfl, rfl⟩
    go_wp2_with fail
    refine (h2 _).out.mono ?_
    rintro e w' ⟨rfl, rfl⟩
    go_wp2_with fail
    go_loop [6, 7, 8, 9, 10] (fun va vb vc vd vn => ∃ (k : Nat) (a : Int) (b c d : Nat), k ≤ s.size ∧ vn = .int .i64 ((k : Int) + 1) ∧ va = .int .i64 a ∧ vb = .int .i64 b ∧ vc = .int .i64 c ∧ vd = .int .i64 d ∧ Hid (SlAt s sl2 k a b c d)) (fun _ _ _ _ n => s.size + 1 - (intOf n).toNat)
    case atStart => exact ⟨0, -1, 1, 2, 1, by omega, rfl, rfl, rfl, rfl, rfl, hst⟩
    case round =>
      obtain ⟨k, a, b, c, d, hk, rfl, rfl, rfl, rfl, rfl, hat⟩ := hrel
      obtain ⟨a0, a1, b0, b1, c0, c1, d0, d1⟩ := slAt_ok sl2_ok hat.out (by omega)
      simp only at a0 a1 b0 b1 c0 c1 d0 d1
      by_cases hlt : k < s.size
      · obtain ⟨n, hn⟩ : ∃ n : Nat, n = k + 1 := ⟨_, rfl⟩
        have hni : (k : Int) + 1 = (n : Int) := by omega
        rw [hni]
        obtain ⟨lo, hlo⟩ : ∃ lo, lo = lowOf s n := ⟨_, rfl⟩
        obtain ⟨hi, hhi⟩ : ∃ hi, hi = highOf s n := ⟨_, rfl⟩
        have hlob : lo ≤ n := by rw [hlo]; exact lowTo_le _ _ _
        have hhib : hi ≤ n := by rw [hhi]; exact highTo_le _ _ _
        have h3 := fun W => Lib.hid (l10Spread_c s n W (by omega) (by omega))
        rw [← hlo, ← hhi] at h3
        have hnx := fun a' b' c' d' h' => Lib.hid (slAt_next (lo := lo) (hi := hi) (a' := a') (b' := b') (c' := c') (d' := d') hat.out (by rw [← hn]; exact hlo) (by rw [← hn]; exact hhi) (by rw [← hn]; exact h'))
        have hle : n ≤ s.size := by omega
        have w1 : IntKind.i64.wrap ((hi : Int) - 1) = (hi : Int) - 1 := IntWalk.i64_in _ (by omega)
        have w2 : IntKind.i64.wrap ((lo : Int) + 1) = (lo : Int) + 1 := IntWalk.i64_in _ (by omega)
        have w3 : IntKind.i64.wrap (((hi : Int) - 1) * (b : Int)) = ((hi : Int) - 1) * (b : Int) := mulw (by omega) (by omega) (by omega) (by omega)
        have w4 : IntKind.i64.wrap (a * (n : Int)) = a * (n : Int) := mulw (by omega) (by omega) (by omega) (by omega)
        have w5 : IntKind.i64.wrap (((lo : Int) + 1) * (d : Int)) = ((lo : Int) + 1) * (d : Int) := mulw (by omega) (by omega) (by omega) (by omega)
        have w6 : IntKind.i64.wrap ((c : Int) * (n : Int)) = (c : Int) * (n : Int) := mulw (by omega) (by omega) (by omega) (by omega)
        have hkn := Lib.hid hn
        clear hlo hhi hat hn
        obtain ⟨P1, hP1⟩ : ∃ P, P = decide (a * (n : Int) < ((hi : Int) - 1) * (b : Int)) := ⟨_, rfl⟩
        obtain ⟨P2, hP2⟩ : ∃ P, P = decide (((lo : Int) + 1) * (d : Int) < (c : Int) * (n : Int)) := ⟨_, rfl⟩
        cases P1 <;> cases P2
        · have q1 := of_decide_eq_false hP1.symm
          have q2 := of_decide_eq_false hP2.symm
          have hx := hnx a b c d (by simp only [slStep]; rw [if_neg q1, if_neg q1, if_neg q2, if_neg q2])
          have d1 := hP1.symm
          have d2 := hP2.symm
          clear hnx hP1 hP2 q1 q2
          go_wp2_with fail
          refine (h3 _).out.mono ?_
          rintro e w' ⟨rfl, rfl⟩
          go_wp2_with fail
          go_round
          case rel => exact ⟨k + 1, a, b, c, d, by omega, by have := hkn.out; go_num, rfl, rfl, rfl, rfl, hx⟩
          case measure => simp [intOf] <;> omega
        · have q1 := of_decide_eq_false hP1.symm
          have q2 := of_decide_eq_true hP2.symm
          have hx := hnx a b (lo + 1) n (by simp only [slStep]; rw [if_neg q1, if_neg q1, if_pos q2, if_pos q2])
          have d1 := hP1.symm
          have d2 := hP2.symm
          clear hnx hP1 hP2 q1 q2
          go_wp2_with fail
          refine (h3 _).out.mono ?_
          rintro e w' ⟨rfl, rfl⟩
          go_wp2_with fail
          go_round
          case rel => exact ⟨k + 1, a, b, lo + 1, n, by omega, by have := hkn.out; go_num, rfl, rfl, by go_num, rfl, hx⟩
          case measure => simp [intOf] <;> omega
        · have q1 := of_decide_eq_true hP1.symm
          have q2 := of_decide_eq_false hP2.symm
          have hx := hnx ((hi : Int) - 1) n c d (by simp only [slStep]; rw [if_pos q1, if_pos q1, if_neg q2, if_neg q2])
          have d1 := hP1.symm
          have d2 := hP2.symm
          clear hnx hP1 hP2 q1 q2
          go_wp2_with fail
          refine (h3 _).out.mono ?_
          rintro e w' ⟨rfl, rfl⟩
          go_wp2_with fail
          go_round
          case rel => exact ⟨k + 1, (hi : Int) - 1, n, c, d, by omega, by have := hkn.out; go_num, rfl, rfl, rfl, rfl, hx⟩
          case measure => simp [intOf] <;> omega
        · have q1 := of_decide_eq_true hP1.symm
          have q2 := of_decide_eq_true hP2.symm
          have hx := hnx ((hi : Int) - 1) n (lo + 1) n (by simp only [slStep]; rw [if_pos q1, if_pos q1, if_pos q2, if_pos q2])
          have d1 := hP1.symm
          have d2 := hP2.symm
          clear hnx hP1 hP2 q1 q2
          go_wp2_with fail
          refine (h3 _).out.mono ?_
          rintro e w' ⟨rfl, rfl⟩
          go_wp2_with fail
          go_round
          case rel => exact ⟨k + 1, (hi : Int) - 1, n, lo + 1, n, by omega, by have := hkn.out; go_num, rfl, rfl, by go_num, rfl, hx⟩
          case measure => simp [intOf] <;> omega
      · have hend : Hid ((⟨a, b, c, d⟩ : Sl) = slEnd s) := by
          have := hat.out
          unfold SlAt at this
          rw [show k = s.size by omega] at this
          exact this
        rw [← hend.out] at r1 r2 r3 r4
        obtain ⟨g, hg⟩ : ∃ g, g = Nat.gcd a.natAbs b := ⟨_, rfl⟩
        obtain ⟨h, hh⟩ : ∃ h, h = Nat.gcd c d := ⟨_, rfl⟩
        have g0 : 0 < g := by rw [hg]; exact Nat.gcd_pos_of_pos_right _ (by omega)
        have h0 : 0 < h := by rw [hh]; exact Nat.gcd_pos_of_pos_right _ (by omega)
        have hgc := fun W => Lib.hid (l09Gcd_c a.natAbs b W (by omega) (by omega))
        have hhc := fun W => Lib.hid (l09Gcd_c c d W (by omega) (by omega))
        rw [← hg] at hgc
        rw [← hh] at hhc
        have f1 : Hid (slA s = a.tdiv (g : Int)) := by rw [hg]; exact r1.out
        have f2 : Hid (slB s = (b : Int).tdiv (g : Int)) := by rw [hg]; exact r2.out
        have f3 : Hid (slC s = (c : Int).tdiv (h : Int)) := by rw [hh]; exact r3.out
        have f4 : Hid (slD s = (d : Int).tdiv (h : Int)) := by rw [hh]; exact r4.out
        have z1 : ((g : Int) == 0) = false := by simp; omega
        have z2 : ((h : Int) == 0) = false := by simp; omega
        have wn : IntKind.i64.wrap (-a) = -a := IntWalk.i64_in _ (by omega)
        have wm := absmax a
        obtain ⟨q1, hq1⟩ : ∃ q, q = a.tdiv (g : Int) := ⟨_, rfl⟩
        obtain ⟨q2, hq2'⟩ : ∃ q, q = b / g := ⟨_, rfl⟩
        obtain ⟨q3, hq3⟩ : ∃ q, q = c / h := ⟨_, rfl⟩
        obtain ⟨q4, hq4⟩ : ∃ q, q = d / h := ⟨_, rfl⟩
        have x1 : a.tdiv (g : Int) = q1 := hq1.symm
        have y1 : IntKind.i64.wrap q1 = q1 := by rw [hq1]; exact tdivw (by omega) (by omega)
        have x2 : (b : Int).tdiv (g : Int) = (q2 : Int) := by rw [hq2', Int.tdiv_eq_ediv_of_nonneg (by omega)]; exact (Int.natCast_ediv _ _).symm
        have x2' : (b : Int) / (g : Int) = (q2 : Int) := by rw [hq2']; exact (Int.natCast_ediv _ _).symm
        have x3 : (c : Int).tdiv (h : Int) = (q3 : Int) := by rw [hq3, Int.tdiv_eq_ediv_of_nonneg (by omega)]; exact (Int.natCast_ediv _ _).symm
        have x3' : (c : Int) / (h : Int) = (q3 : Int) := by rw [hq3]; exact (Int.natCast_ediv _ _).symm
        have x4 : (d : Int).tdiv (h : Int) = (q4 : Int) := by rw [hq4, Int.tdiv_eq_ediv_of_nonneg (by omega)]; exact (Int.natCast_ediv _ _).symm
        have x4' : (d : Int) / (h : Int) = (q4 : Int) := by rw [hq4]; exact (Int.natCast_ediv _ _).symm
        have u2 : q2 ≤ 60 := by rw [hq2']; exact Nat.le_trans (Nat.div_le_self _ _) b1
        have u3 : q3 ≤ 61 := by rw [hq3]; exact Nat.le_trans (Nat.div_le_self _ _) c1
        have u4 : q4 ≤ 60 := by rw [hq4]; exact Nat.le_trans (Nat.div_le_self _ _) d1
        have y2 : IntKind.i64.wrap (q2 : Int) = (q2 : Int) := IntWalk.i64_in _ (by omega)
        have y3 : IntKind.i64.wrap (q3 : Int) = (q3 : Int) := IntWalk.i64_in _ (by omega)
        have y4 : IntKind.i64.wrap (q4 : Int) = (q4 : Int) := IntWalk.i64_in _ (by omega)
        rw [x1] at f1
        rw [x2] at f2
        rw [x3] at f3
        rw [x4] at f4
        clear hg hh hq1 hq2' hq3 hq4 r1 r2 r3 r4 hend
        go_wp2_with fail
        refine (hgc _).out.mono ?_
        rintro e w1 ⟨rfl, rfl⟩
        go_wp2_with fail
        refine (hhc _).out.mono ?_
        rintro e w2 ⟨rfl, rfl⟩
        go_wp2_with fail
        go_quiet (fail)
        go_wp2
        ((try simp only [Exit.inBlock, Exit.then]); refine bodyPost_ret (results_tmp4 rfl _ _ _) rfl ?_)
        exact ⟨ret_4 f1.out.symm f2.out.symm f3.out.symm f4.out.symm, below_drewN (Below.refl _ _) _⟩
theorem lawSlopesOf_w (s : ByteArray) (w : World) (w0 : s.size ≤ maxLen) :
    Calls Try.prog 11 #[.string s] w fun e w' => e = .returned (.bool true) ∧ Below w.heap.size w w' := by
  unfold maxLen at w0
  by_cases hs : 1048576 < s.size
  · go_enter Try.func11, Try.ntmps11
    go_wp2
    go_ret
    exact ⟨rfl, Below.refl _ _⟩
  · go_enter Try.func11, Try.ntmps11
    go_wp2_with (first | (go_at_call 36; refine (slopesOf_s _ _ (by omega)).mono ?_; rintro e w1 ⟨rfl, hb1⟩) | (go_at_call 37; refine (slopesOf_i _ _ (by omega)).mono ?_; rintro e w2 ⟨rfl, hb2⟩))
    go_ret
    exact ⟨rfl, hb1.trans (hb2.mono hb1.size)⟩
end Go.Proofs.Ythbdonlhhpmolaa
