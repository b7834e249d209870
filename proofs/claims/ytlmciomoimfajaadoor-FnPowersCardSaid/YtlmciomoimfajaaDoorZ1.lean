/- Plain lemmas for FnPowers: squares, cubes and overlaps are told alike by all that look for them. No program in sight. -/
import Derived.Test.YtlmciomoimfajaaDoorR0
import Derived.Test.YtlmciomoimfajaaDoorT6
import Derived.Test.YtlmciomoimfajaaDoorC0
import Derived.Test.YtlmciomoimfajaaDoorC1
import Derived.Test.YtlmciomoimfajaaDoorD2
import Derived.Test.YtlmciomoimfajaaDoorB9
import Derived.Test.YtlmciomoimfajaaDoorT3
import Derived.Test.YtlmciomoimfajaaDoorT8
namespace Go.Proofs.YtlmciomoimfajaaDoor
set_option linter.unusedVariables false

theorem pow_cut {l : List UInt8} {i m k len per : Nat} (h : i + m ≤ l.length) : PowP ((l.drop i).take m) k len per ↔ k + len ≤ m ∧ PowP l (i + k) len per := by
  unfold PowP
  rw [List.length_take, List.length_drop, Nat.min_eq_left (by omega)]
  constructor
  · rintro ⟨h1, h2⟩
    refine ⟨h1, by omega, fun j hj => ?_⟩
    have := h2 j hj
    rw [List.getElem?_take, List.getElem?_take, if_pos (by omega), if_pos (by omega), List.getElem?_drop, List.getElem?_drop] at this
    rw [show i + k + j = i + (k + j) by omega, show i + (k + j) + per = i + (k + j + per) by omega]; exact this
  · rintro ⟨h1, h2, h3⟩
    refine ⟨h1, fun j hj => ?_⟩
    have := h3 j hj
    rw [List.getElem?_take, List.getElem?_take, if_pos (by omega), if_pos (by omega), List.getElem?_drop, List.getElem?_drop]
    rw [show i + (k + j) = i + k + j by omega, show i + (k + j + per) = i + k + j + per by omega]; exact this
theorem pow_ext {s : ByteArray} {i m k len per : Nat} (h : i + m ≤ s.size) : PowP (s.extract i (i + m)).data.toList k len per ↔ k + len ≤ m ∧ PowP s.data.toList (i + k) len per := by
  rw [ext_data, show i + m - i = m by omega]
  exact pow_cut (by rw [← size_len]; exact h)
theorem pow_less {l : List UInt8} {i len len' per : Nat} (h : PowP l i len per) (hl : len' ≤ len) : PowP l i len' per :=
  ⟨by have := h.1; omega, fun j hj => h.2 j (by omega)⟩
theorem rep_21 {l : List UInt8} (h : RepP l 2 1) : RepP l 2 0 := by
  obtain ⟨p, i, h1, h2⟩ := h
  exact ⟨p, i, h1, pow_less h2 (by omega)⟩
theorem rep_30 {l : List UInt8} (h : RepP l 3 0) : RepP l 2 1 := by
  obtain ⟨p, i, h1, h2⟩ := h
  exact ⟨p, i, h1, pow_less h2 (by omega)⟩
theorem rep_pre {l l' : List UInt8} {t m : Nat} (h : l <+: l') (hr : RepP l t m) : RepP l' t m := by
  obtain ⟨p, i, h1, h2, h3⟩ := hr
  obtain ⟨r, rfl⟩ := h
  refine ⟨p, i, h1, by rw [List.length_append]; omega, fun j hj => ?_⟩
  have := h3 j hj
  rw [List.getElem?_append_left (by omega), List.getElem?_append_left (by omega)]; exact this
/-! squares -/
theorem sqW_mem {s x : ByteArray} (h : shortB s = true) : x ∈ sqW s ↔ ∃ i m, 1 ≤ m ∧ i + 2 * m ≤ s.size ∧ PowP s.data.toList i (2 * m) m ∧ x = s.extract i (i + 2 * m) := by
  unfold sqW
  rw [if_pos h, uniqS_mem]
  unfold sqRows
  rw [mem_rowsP]
  constructor
  · rintro ⟨i, m, h1, h2, h3, h4, h5, h6⟩
    exact ⟨i, m, h3, by omega, powB_iff.1 h5, h6⟩
  · rintro ⟨i, m, h1, h2, h3, h4⟩
    exact ⟨i, m, by omega, by omega, h1, by omega, powB_iff.2 h3, h4⟩
theorem sqW_asc (s : ByteArray) : AscS (sqW s) := by
  unfold sqW; split
  · exact uniqS_asc _
  · exact ascS_nil
theorem sqW_rep {s : ByteArray} (h : shortB s = true) : RepP s.data.toList 2 0 ↔ 1 ≤ (sqW s).length := by
  constructor
  · rintro ⟨p, i, h1, h2⟩
    have h3 := h2.1
    rw [← size_len] at h3
    exact List.length_pos_of_mem ((sqW_mem h).2 ⟨i, p, h1, by omega, h2, rfl⟩)
  · intro h1
    obtain ⟨x, hx⟩ := List.exists_mem_of_length_pos h1
    obtain ⟨i, m, h2, _, h3, _⟩ := (sqW_mem h).1 hx
    exact ⟨m, i, h2, h3⟩
theorem sq_part {s x : ByteArray} (h : shortB s = true) (hx : x ∈ sqW s) : ∃ m, 1 ≤ m ∧ x.size = 2 * m ∧ ((x.extract 0 m).toList == (x.extract m x.size).toList) = true ∧ x.data.toList <:+: s.data.toList := by
  obtain ⟨i, m, h1, h2, h3, h4⟩ := (sqW_mem h).1 hx
  have hz : x.size = 2 * m := by rw [h4, ext_size s i (i + 2 * m) h2 (by omega)]; omega
  refine ⟨m, h1, hz, ?_, inf_ext.2 ⟨i, by omega, by rw [hz]; exact h4⟩⟩
  have hp : PowP x.data.toList 0 (2 * m) m := by rw [h4]; exact (pow_ext h2).2 ⟨by omega, h3⟩
  have := sq_eq x 0 m (by omega)
  rw [show 0 + m = m by omega, show m + m = x.size by omega, powB_iff.2 hp] at this
  exact this
/-! the first square -/
theorem fsIn_spec (l : List UInt8) (e : Nat) : ∀ f h, 1 ≤ h → (fsIn l e f h = 0 ∧ ∀ k, h ≤ k → k < h + f → ¬ PowP l (e - 2 * k) (2 * k) k) ∨ (h ≤ fsIn l e f h ∧ fsIn l e f h < h + f ∧ PowP l (e - 2 * fsIn l e f h) (2 * fsIn l e f h) (fsIn l e f h))
  | 0, h, h1 => .inl ⟨rfl, fun k a b => by omega⟩
  | f + 1, h, h1 => by
    unfold fsIn
    split
    · rename_i hp
      exact .inr ⟨Nat.le_refl _, by omega, powB_iff.1 hp⟩
    · rename_i hp
      rcases fsIn_spec l e f (h + 1) (by omega) with ⟨h2, h3⟩ | ⟨h2, h3, h4⟩
      · refine .inl ⟨h2, fun k a b hk => ?_⟩
        rcases Nat.eq_or_lt_of_le a with rfl | a
        · exact hp (powB_iff.2 hk)
        · exact h3 k (by omega) (by omega) hk
      · exact .inr ⟨by omega, by omega, h4⟩
/-- does a square end there -/
def SqEnd (l : List UInt8) (e : Nat) : Prop := ∃ k, 1 ≤ k ∧ 2 * k ≤ e ∧ PowP l (e - 2 * k) (2 * k) k
theorem fsOut_spec (l : List UInt8) : ∀ f e, 2 ≤ e → (fsOut l f e = (-1, -1) ∧ ∀ d, e ≤ d → d < e + f → ¬ SqEnd l d) ∨ ∃ d h : Nat, fsOut l f e = ((d : Int), (h : Int)) ∧ e ≤ d ∧ d < e + f ∧ 1 ≤ h ∧ 2 * h ≤ d ∧ PowP l (d - 2 * h) (2 * h) h ∧ ∀ c, e ≤ c → c < d → ¬ SqEnd l c
  | 0, e, _ => .inl ⟨rfl, fun d a b => by omega⟩
  | f + 1, e, h0 => by
    unfold fsOut
    rcases fsIn_spec l e (e / 2) 1 (by omega) with ⟨h1, h2⟩ | ⟨h1, h2, h3⟩
    · have hn : ¬ SqEnd l e := by
        rintro ⟨k, a, b, c⟩
        exact h2 k a (by omega) c
      rw [if_pos h1]
      rcases fsOut_spec l f (e + 1) (by omega) with ⟨h3, h4⟩ | ⟨d, h, h3, h4, h5, h6, h7, h8, h9⟩
      · refine .inl ⟨h3, fun d a b => ?_⟩
        rcases Nat.eq_or_lt_of_le a with rfl | a
        · exact hn
        · exact h4 d (by omega) (by omega)
      · refine .inr ⟨d, h, h3, by omega, by omega, h6, h7, h8, fun c a b => ?_⟩
        rcases Nat.eq_or_lt_of_le a with rfl | a
        · exact hn
        · exact h9 c (by omega) b
    · rw [if_neg (by omega)]
      exact .inr ⟨e, _, rfl, by omega, by omega, h1, by omega, h3, fun c a b => by omega⟩
theorem fs_facts {s : ByteArray} (hw : wordL s.data.toList = true) : (fsW s = (-1, -1) ∧ ¬ RepP s.data.toList 2 0) ∨ ∃ d h : Nat, fsW s = ((d : Int), (h : Int)) ∧ 1 ≤ h ∧ 2 * h ≤ d ∧ d ≤ s.size ∧ RepP s.data.toList 2 0 ∧ ((s.extract (d - 2 * h) (d - h)).toList == (s.extract (d - h) d).toList) = true ∧ ¬ RepP (s.extract 0 (d - 1)).data.toList 2 0 := by
  have hl := size_len s
  unfold fsW
  rw [if_pos hw]
  rcases fsOut_spec s.data.toList (s.size + 1 - 2) 2 (by omega) with ⟨h1, h2⟩ | ⟨d, h, h1, h2, h3, h4, h5, h6, h7⟩
  · refine .inl ⟨h1, ?_⟩
    rintro ⟨p, i, a, b⟩
    have hb := b.1
    refine h2 (i + 2 * p) (by omega) (by omega) ⟨p, a, by omega, ?_⟩
    rw [show i + 2 * p - 2 * p = i by omega]; exact b
  · refine .inr ⟨d, h, h1, h4, h5, by omega, ⟨h, _, h4, h6⟩, ?_, ?_⟩
    · have := sq_eq s (d - 2 * h) h (by omega)
      rw [show d - 2 * h + h = d - h by omega, show d - h + h = d by omega, powB_iff.2 h6] at this
      exact this
    · rintro ⟨p, i, a, b⟩
      have e : s.extract 0 (d - 1) = s.extract 0 (0 + (d - 1)) := by rw [Nat.zero_add]
      rw [e, pow_ext (by omega)] at b
      obtain ⟨b1, b2⟩ := b
      rw [Nat.zero_add] at b2
      refine h7 (i + 2 * p) (by omega) (by omega) ⟨p, a, by omega, ?_⟩
      rw [show i + 2 * p - 2 * p = i by omega]; exact b2
/-! the greatest exponent -/
theorem lpGo_is (l : List UInt8) : ∀ f p, p + f = l.length + 1 → 1 ≤ f → 1 ≤ p → powB l 0 l.length (lpGo l f p) = true ∧ ∀ q, p ≤ q → powB l 0 l.length q = true → lpGo l f p ≤ q
  | 0, _, _, h, _ => by omega
  | f + 1, p, h, _, hp => by
    unfold lpGo
    split
    · rename_i hpw
      exact ⟨hpw, fun q hq _ => hq⟩
    · rename_i hpw
      by_cases hf : 1 ≤ f
      · obtain ⟨h1, h2⟩ := lpGo_is l f (p + 1) (by omega) hf (by omega)
        refine ⟨h1, fun q hq hqp => ?_⟩
        rcases Nat.eq_or_lt_of_le hq with rfl | hq
        · exact absurd hqp hpw
        · exact h2 q (by omega) hqp
      · obtain rfl : p = l.length := by omega
        exact absurd (root_full l).2 hpw
theorem lpS_is {x : ByteArray} (h : 1 ≤ x.size) : PowP x.data.toList 0 x.size (lpS x) ∧ ∀ q, 1 ≤ q → PowP x.data.toList 0 x.size q → lpS x ≤ q := by
  unfold lpS lpOf
  rw [size_len] at h ⊢
  obtain ⟨h1, h2⟩ := lpGo_is x.data.toList x.data.toList.length 1 (by omega) h (by omega)
  exact ⟨powB_iff.1 h1, fun q hq hp => h2 q hq (powB_iff.2 hp)⟩
structure GeI (s : ByteArray) (n a b : Nat) : Prop where
  at_ : ∃ x ∈ facW s a, lpS x = b
  pos : 1 ≤ a
  mx : ∀ m, 1 ≤ m → m < n → ∀ x ∈ facW s m, m * b ≤ a * lpS x
theorem GeI.bpos {s : ByteArray} {n a b : Nat} (h : GeI s n a b) : 1 ≤ b := by
  obtain ⟨x, hx, rfl⟩ := h.at_
  exact (lpS_bd (x := x) (by rw [facW_size hx]; exact h.pos)).1
theorem geI_step {s : ByteArray} {n a b : Nat} (hn : 1 ≤ n) (h : GeI s n a b) : GeI s (n + 1) (stepL n (a, b) ((facW s n).map lpS)).1 (stepL n (a, b) ((facW s n).map lpS)).2 := by
  rcases stepL_is n a b hn ((facW s n).map lpS) with ⟨h1, h2⟩ | ⟨m, h1, h2, h3, h4⟩
  · rw [h1]
    refine ⟨h.at_, h.pos, fun m hm1 hm x hx => ?_⟩
    rcases Nat.lt_succ_iff_lt_or_eq.1 hm with hm | rfl
    · exact h.mx m hm1 hm x hx
    · exact Nat.le_of_not_lt (h2 (lpS x) (List.mem_map.2 ⟨x, hx, rfl⟩))
  · rw [h1]
    have hb := h.bpos
    obtain ⟨y, hy, hym⟩ := List.mem_map.1 h2
    refine ⟨⟨y, hy, hym⟩, hn, fun k hk1 hk x hx => ?_⟩
    show k * m ≤ n * lpS x
    rcases Nat.lt_succ_iff_lt_or_eq.1 hk with hk | rfl
    · have h5 := h.mx k hk1 hk x hx
      have h6 : k * b * m ≤ a * lpS x * m := Nat.mul_le_mul_right _ h5
      have h7 : a * m * lpS x ≤ n * b * lpS x := Nat.mul_le_mul_right _ (Nat.le_of_lt h3)
      have e1 : k * b * m = k * m * b := Nat.mul_right_comm _ _ _
      have e2 : a * lpS x * m = a * m * lpS x := Nat.mul_right_comm _ _ _
      have e3 : n * b * lpS x = n * lpS x * b := Nat.mul_right_comm _ _ _
      rw [e1, e2] at h6
      rw [e3] at h7
      exact Nat.le_of_mul_le_mul_right (Nat.le_trans h6 h7) hb
    · exact Nat.mul_le_mul_left _ (h4 (lpS x) (List.mem_map.2 ⟨x, hx, rfl⟩))
theorem geGo_is {s : ByteArray} : ∀ f n a b, 1 ≤ n → GeI s n a b → GeI s (n + f) (geGo (fun n => (facW s n).map lpS) f n (a, b)).1 (geGo (fun n => (facW s n).map lpS) f n (a, b)).2
  | 0, n, a, b, _, h => h
  | f + 1, n, a, b, hn, h => by
    have := geGo_is f (n + 1) _ _ (by omega) (geI_step hn h)
    rw [show n + (f + 1) = n + 1 + f by omega]
    exact this
theorem geW_is {s : ByteArray} (h : shortB s = true) (h1 : 1 ≤ s.size) : GeI s (s.size + 1) (geW s).1 (geW s).2 := by
  have hok : geOk s = true := geOk_iff.2 ⟨(shortB_iff.1 h).1, (shortB_iff.1 h).2, h1⟩
  rw [geW_impl hok, show s.size + 1 = 1 + s.size by omega]
  have hz := ext_size s 0 (0 + 1) (by omega) (by omega)
  refine geGo_is s.size 1 1 1 (by omega) ⟨⟨s.extract 0 (0 + 1), facW_mem.2 ⟨0, by omega, rfl⟩, ?_⟩, by omega, fun m a b => by omega⟩
  have := lpS_bd (x := s.extract 0 (0 + 1)) (by omega)
  omega
theorem ge_rep {s : ByteArray} (h : shortB s = true) (h1 : 1 ≤ s.size) (t m : Nat) (ht : 1 ≤ t) (hm : m ≤ 1) : RepP s.data.toList t m ↔ t * (geW s).2 + m ≤ (geW s).1 := by
  have hge := geW_is h h1
  have hb := hge.bpos
  generalize (geW s).1 = n at hge ⊢
  generalize (geW s).2 = p at hge hb ⊢
  constructor
  · rintro ⟨P, i, hP, hp⟩
    have h2 := hp.1
    rw [← size_len] at h2
    have hM : 1 ≤ t * P := Nat.mul_pos ht hP
    have hz := ext_size s i (i + (t * P + m)) h2 (by omega)
    have hz2 : (s.extract i (i + (t * P + m))).size = t * P + m := by omega
    have hlp := (lpS_is (x := s.extract i (i + (t * P + m))) (by omega)).2 P hP (by rw [hz2]; exact (pow_ext h2).2 ⟨by omega, by rw [Nat.add_zero]; exact hp⟩)
    have hmx := hge.mx (t * P + m) (by omega) (by omega) _ (facW_mem.2 ⟨i, h2, rfl⟩)
    have h3 := Nat.le_trans hmx (Nat.mul_le_mul_left n hlp)
    rw [Nat.add_mul, Nat.mul_right_comm] at h3
    rcases Nat.eq_zero_or_pos m with rfl | h0
    · rw [Nat.zero_mul, Nat.add_zero] at h3
      rw [Nat.add_zero]
      exact Nat.le_of_mul_le_mul_right h3 hP
    · have e : m = 1 := by omega
      subst e
      rw [Nat.one_mul] at h3
      exact Nat.lt_of_mul_lt_mul_right (Nat.lt_of_lt_of_le (Nat.lt_add_of_pos_right hb) h3)
  · intro h2
    obtain ⟨x, hx, hxp⟩ := hge.at_
    obtain ⟨i, h3, h4⟩ := facW_mem.1 hx
    have hz := facW_size hx
    have h5 := (lpS_is (x := x) (by have := hge.pos; omega)).1
    rw [hz, hxp, h4] at h5
    have h6 := ((pow_ext h3).1 h5).2
    rw [Nat.add_zero] at h6
    exact ⟨p, i, hb, pow_less h6 h2⟩
theorem geW_bd (s : ByteArray) (h : shortB s = true) : (geW s).1 ≤ 60 ∧ (geW s).2 ≤ 60 ∧ (s.size = 0 → (geW s).1 = 0 ∧ (geW s).2 = 0) := by
  have h60 := (shortB_iff.1 h).2
  rcases Nat.eq_zero_or_pos s.size with h0 | h1
  · have : geOk s = false := by
      cases hg : geOk s with
      | false => rfl
      | true => have := (geOk_iff.1 hg).2.2; omega
    have e : geW s = (0, 0) := by unfold geW; rw [if_neg (by rw [this]; decide)]
    rw [e]; exact ⟨by decide, by decide, fun _ => ⟨rfl, rfl⟩⟩
  · have hge := geW_is h h1
    obtain ⟨x, hx, hxp⟩ := hge.at_
    have hz := facW_size hx
    obtain ⟨i, h3, h4⟩ := facW_mem.1 hx
    have h5 := lpS_bd (x := x) (by have := hge.pos; omega)
    exact ⟨by omega, by omega, fun h0 => by omega⟩
/-- nothing repeats in the empty word -/
theorem rep_empty {s : ByteArray} (h0 : s.size = 0) {t m : Nat} (ht : 1 ≤ t) : ¬ RepP s.data.toList t m := by
  rintro ⟨p, i, h1, h2⟩
  have h3 := h2.1
  rw [← size_len] at h3
  have : 1 ≤ t * p := Nat.mul_pos ht h1
  omega
/-! the longest run -/
theorem run_pow (l : List UInt8) : ∀ k, k ≤ l.length → PowP l (k - runAt l k) (runAt l k) 1
  | 0, _ => ⟨by simp [runAt], fun j hj => by simp [runAt] at hj⟩
  | k + 1, hk => by
    obtain ⟨h1, h2⟩ := run_pow l k (by omega)
    have hr := runAt_le l k
    unfold runAt
    split
    · rename_i hc
      refine ⟨by omega, fun j hj => ?_⟩
      rw [show k + 1 - (runAt l k + 1) = k - runAt l k by omega]
      rcases Nat.lt_or_ge (j + 1) (runAt l k) with h | h
      · exact h2 j h
      · rw [show k - runAt l k + j = k - 1 by omega, show k - 1 + 1 = k by omega]; exact hc.2.symm
    · exact ⟨by omega, fun j hj => by omega⟩
theorem most_run (l : List UInt8) : ∀ k, 1 ≤ k → ∃ j, 1 ≤ j ∧ j ≤ k ∧ mostAt l k = runAt l j
  | 0, h => by omega
  | k + 1, _ => by
    unfold mostAt
    rcases Nat.eq_zero_or_pos k with rfl | h0
    · exact ⟨1, by omega, by omega, by simp [mostAt]⟩
    · obtain ⟨j, h1, h2, h3⟩ := most_run l k h0
      rcases Nat.le_total (mostAt l k) (runAt l (k + 1)) with h | h
      · exact ⟨k + 1, by omega, by omega, by omega⟩
      · exact ⟨j, h1, by omega, by omega⟩
theorem run_one (l : List UInt8) (k : Nat) : 1 ≤ runAt l (k + 1) := by unfold runAt; split <;> omega
theorem long_facts {s : ByteArray} (hw : wordL s.data.toList = true) : ∃ r : Nat, longW s = (r : Int) ∧ r ≤ s.size ∧ (r = 0 ↔ s.size = 0) ∧ (2 ≤ r → RepP s.data.toList 2 0) ∧ (3 ≤ r → RepP s.data.toList 3 0) := by
  refine ⟨mostAt s.data.toList s.size, by unfold longW; rw [if_pos hw], mostAt_le _ _, ?_, ?_⟩
  · constructor
    · intro h
      rcases Nat.eq_zero_or_pos s.size with h0 | h1
      · exact h0
      · obtain ⟨j, h2, h3, h4⟩ := most_run s.data.toList s.size h1
        obtain ⟨i, rfl⟩ : ∃ i, j = i + 1 := ⟨j - 1, by omega⟩
        have := run_one s.data.toList i
        omega
    · intro h; rw [h]; rfl
  · rcases Nat.eq_zero_or_pos s.size with h0 | h1
    · have := mostAt_le s.data.toList s.size
      exact ⟨fun h => by omega, fun h => by omega⟩
    · obtain ⟨j, h2, h3, h4⟩ := most_run s.data.toList s.size h1
      have hp := run_pow s.data.toList j (by rw [← size_len]; exact h3)
      rw [← h4] at hp
      exact ⟨fun h => ⟨1, _, by omega, pow_less hp (by omega)⟩, fun h => ⟨1, _, by omega, pow_less hp (by omega)⟩⟩
/-! a letter more -/
theorem ex_facts (s : ByteArray) : exW s = St [] ∨ (sqB s = true ∧ ∃ k, exW s = snoc s k ∧ sqB (snoc s k) = true) := by
  cases h : sqB s
  · exact .inl (exW_not h)
  · have key : ∀ f k, exGo s f k = St [] ∨ ∃ j, exGo s f k = snoc s j ∧ sqB (snoc s j) = true := by
      intro f
      induction f with
      | zero => intro k; exact .inl rfl
      | succ f ih =>
        intro k
        unfold exGo
        split
        · rename_i hq; exact .inr ⟨k, rfl, hq⟩
        · exact ih (k + 1)
    rcases key 3 0 with h1 | h1
    · exact .inl h1
    · exact .inr ⟨rfl, h1⟩
/-! a look through a long word -/
def agr : List UInt8 → List UInt8 → Nat → Bool
  | _, _, 0 => true
  | x :: a, y :: b, k + 1 => x == y && agr a b k
  | _, _, _ + 1 => false
theorem agr_iff : ∀ (a b : List UInt8) (k : Nat), k ≤ a.length → (agr a b k = true ↔ k ≤ b.length ∧ ∀ j, j < k → a[j]? = b[j]?)
  | _, _, 0, _ => by unfold agr; exact ⟨fun _ => ⟨by omega, fun j hj => by omega⟩, fun _ => rfl⟩
  | x :: a, [], k + 1, _ => by
    unfold agr
    constructor
    · intro h; cases h
    · rintro ⟨h, _⟩; simp at h
  | [], b, k + 1, h => by simp at h
  | x :: a, y :: b, k + 1, h => by
    have ih := agr_iff a b k (by simpa using h)
    unfold agr
    rw [Bool.and_eq_true, ih, beq_iff_eq]
    constructor
    · rintro ⟨rfl, h1, h2⟩
      refine ⟨by simpa using h1, fun j hj => ?_⟩
      cases j with
      | zero => rfl
      | succ j => simpa using h2 j (by omega)
    · rintro ⟨h1, h2⟩
      refine ⟨by simpa using h2 0 (by omega), by simpa using h1, fun j hj => ?_⟩
      simpa using h2 (j + 1) (by omega)
/-- does a repetition begin at the front of 'a'; 'b' is 'a' without its first P letters -/
def repF (t m : Nat) (a : List UInt8) : List UInt8 → Nat → Bool
  | [], _ => false
  | y :: b, P => agr a (y :: b) ((t - 1) * P + m) || repF t m a b (P + 1)
def repC (t m : Nat) : List UInt8 → Bool
  | [] => false
  | x :: a => repF t m (x :: a) a 1 || repC t m a
theorem repF_of {t m : Nat} {a : List UInt8} : ∀ (b : List UInt8) (P p : Nat), a.drop P = b → P ≤ p → p < a.length → agr a (a.drop p) ((t - 1) * p + m) = true → repF t m a b P = true
  | [], P, p, h, h1, h2, _ => by have := congrArg List.length h; simp at this; omega
  | y :: b, P, p, h, h1, h2, h3 => by
    unfold repF
    rcases Nat.eq_or_lt_of_le h1 with rfl | h1
    · rw [← h, h3]; rfl
    · have hd : a.drop (P + 1) = b := by
        have := congrArg (List.drop 1) h
        rw [List.drop_drop] at this; simpa using this
      rw [repF_of b (P + 1) p hd (by omega) h2 h3, Bool.or_true]
theorem repC_of {t m : Nat} : ∀ (l : List UInt8) (i p : Nat), i + p < l.length → 1 ≤ p → agr (l.drop i) (l.drop (i + p)) ((t - 1) * p + m) = true → repC t m l = true
  | [], i, p, h, _, _ => by simp at h
  | x :: a, 0, p, h, h1, h2 => by
    unfold repC
    rw [repF_of (t := t) (m := m) (a := x :: a) a 1 p rfl h1 (by omega) (by simpa using h2)]; rfl
  | x :: a, i + 1, p, h, h1, h2 => by
    unfold repC
    rw [repC_of a i p (by simp at h; omega) h1 (by rw [show i + 1 + p = (i + p) + 1 by omega] at h2; simpa using h2), Bool.or_true]
theorem repC_no {t m : Nat} {l : List UInt8} (ht : 2 ≤ t) (h : repC t m l = false) : ¬ RepP l t m := by
  rintro ⟨p, i, h1, h2, h3⟩
  have e : t * p = (t - 1) * p + p := by
    obtain ⟨u, rfl⟩ : ∃ u, t = u + 1 := ⟨t - 1, by omega⟩
    rw [Nat.succ_mul, Nat.add_sub_cancel]
  have h4 : 1 ≤ (t - 1) * p := Nat.mul_pos (by omega) h1
  have := repC_of (t := t) (m := m) l i p (by omega) h1 ((agr_iff _ _ _ (by rw [List.length_drop]; omega)).2 ⟨by rw [List.length_drop]; omega, fun j hj => by
    rw [List.getElem?_drop, List.getElem?_drop, show i + p + j = i + j + p by omega]
    exact h3 j (by omega)⟩)
  rw [h] at this; cases this
end Go.Proofs.YtlmciomoimfajaaDoor
