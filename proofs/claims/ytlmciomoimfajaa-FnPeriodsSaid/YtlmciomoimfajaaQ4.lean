/- Plain lemmas for FnPeriods: the Lyndon parts of a word: put together they are the word, each is Lyndon, none is before the one that follows it. No program in sight. -/
import Derived.Test.YtlmciomoimfajaaF1
namespace Go.Proofs.Ytlmciomoimfajaa
set_option linter.unusedVariables false

theorem lonG_spec (s : ByteArray) (i : Nat) : ∀ n, 1 ≤ n → LynF (fAt s i) (lonG s i n) ∧ ∀ p, lonG s i n < p → p ≤ n → ¬ LynF (fAt s i) p
  | 0, h => by omega
  | 1, _ => by
    have e : lonG s i 1 = 1 := by unfold lonG; rw [if_pos (cB_true (lyn_one _))]
    rw [e]; exact ⟨lyn_one _, fun p a b => by omega⟩
  | n + 2, _ => by
    have ih := lonG_spec s i (n + 1) (by omega)
    unfold lonG
    split
    · rename_i h
      exact ⟨cB_iff.1 h, fun p a b => by omega⟩
    · rename_i h
      refine ⟨ih.1, fun p a b => ?_⟩
      rcases Nat.eq_or_lt_of_le b with rfl | b
      · exact fun hl => h (cB_true hl)
      · exact ih.2 p a (by omega)
theorem lonO_spec {s : ByteArray} {i : Nat} (h : i < s.size) : LynF (fAt s i) (lonO s i) ∧ ∀ p, lonO s i < p → p ≤ s.size - i → ¬ LynF (fAt s i) p := lonG_spec s i (s.size - i) (by omega)

theorem bl_any : ∀ a b : List UInt8, Op.bytesLess a b = true → (∃ j, j < a.length ∧ j < b.length ∧ (∀ i, i < j → fb a i = fb b i) ∧ fb a j < fb b j) ∨ (a.length < b.length ∧ ∀ i, i < a.length → fb a i = fb b i)
  | [], [], h => by simp [Op.bytesLess] at h
  | [], _ :: _, _ => .inr ⟨by simp, fun i hi => by simp at hi⟩
  | _ :: _, [], h => by simp [Op.bytesLess] at h
  | x :: a, y :: b, h => by
    have ih := bl_any a b
    simp only [Op.bytesLess, Bool.or_eq_true, Bool.and_eq_true, decide_eq_true_eq, beq_iff_eq] at h
    rcases h with h | ⟨rfl, h⟩
    · exact .inl ⟨0, by simp, by simp, fun i hi => by omega, by rw [fb_zero, fb_zero]; exact UInt8.lt_iff_toNat_lt.1 h⟩
    · rcases ih h with ⟨j, h1, h2, h3, h4⟩ | ⟨h1, h2⟩
      · refine .inl ⟨j + 1, by simpa using h1, by simpa using h2, fun i hi => ?_, h4⟩
        cases i with
        | zero => rfl
        | succ i => exact h3 i (by omega)
      · refine .inr ⟨by simpa using h1, fun i hi => ?_⟩
        cases i with
        | zero => rfl
        | succ i => exact h2 i (by simpa using hi)
/-- two Lyndon words, the first before the second, make a Lyndon word -/
theorem lyn_join {f : Nat → Nat} {n m : Nat} (hn : 1 ≤ n) (hm : 1 ≤ m) (hu : LynF f n) (hv : LynF (fun t => f (n + t)) m)
    (h : (∃ j, j < n ∧ j < m ∧ (∀ i, i < j → f i = f (n + i)) ∧ f j < f (n + j)) ∨ (n < m ∧ ∀ i, i < n → f i = f (n + i))) : LynF f (n + m) := by
  have hJ : ∃ J, J < m ∧ (∀ i, i < J → f (n + i) = f i) ∧ f J < f (n + J) := by
    rcases h with ⟨j, h1, h2, h3, h4⟩ | ⟨h1, h2⟩
    · exact ⟨j, h2, fun i hi => (h3 i hi).symm, h4⟩
    · obtain ⟨j, g1, g2, g3⟩ := hv n (by omega) h1
      refine ⟨n + j, g1, fun i hi => ?_, g3⟩
      rcases Nat.lt_or_ge i n with hin | hin
      · exact (h2 i hin).symm
      · obtain ⟨e, rfl⟩ : ∃ e, i = n + e := ⟨i - n, by omega⟩
        exact g2 e (by omega)
  obtain ⟨J, J1, J2, J3⟩ := hJ
  intro r r0 hr
  rcases Nat.lt_trichotomy r n with c | c | c
  · obtain ⟨j, g1, g2, g3⟩ := hu r r0 c
    exact ⟨j, by omega, g2, g3⟩
  · subst c
    exact ⟨J, by omega, J2, J3⟩
  · obtain ⟨q, rfl⟩ : ∃ q, r = n + q := ⟨r - n, by omega⟩
    obtain ⟨j, g1, g2, g3⟩ := hv q (by omega) (by omega)
    simp only [← Nat.add_assoc] at g2 g3
    rcases Nat.lt_or_ge j J with hj | hj
    · refine ⟨j, by omega, fun i hi => ?_, ?_⟩
      · rw [g2 i hi, J2 i (by omega)]
      · rw [← J2 j hj]; exact g3
    · refine ⟨J, by omega, fun i hi => ?_, ?_⟩
      · rw [g2 i (by omega), J2 i hi]
      · rcases Nat.eq_or_lt_of_le hj with e | hj
        · rw [e] at J3 ⊢; omega
        · rw [g2 J hj]; exact J3
/-- a longest Lyndon beginning is not before the next one -/
theorem parts_ge {s : ByteArray} {i : Nat} (hi : i < s.size) (hj : i + lonO s i < s.size) : Op.bytesLess (s.extract i (i + lonO s i)).toList (s.extract (i + lonO s i) (i + lonO s i + lonO s (i + lonO s i))).toList = false := by
  obtain ⟨a1, a2⟩ := lonO_spec hi
  obtain ⟨b1, b2⟩ := lonO_spec hj
  obtain ⟨p1, p2⟩ := lonO_pos hi
  obtain ⟨q1, q2⟩ := lonO_pos hj
  generalize hn : lonO s i = n at *
  generalize hm : lonO s (i + n) = m at *
  cases hb : Op.bytesLess (s.extract i (i + n)).toList (s.extract (i + n) (i + n + m)).toList with
  | false => rfl
  | true =>
    exfalso
    rw [Lib.toList_data, Lib.toList_data] at hb
    have z1 : (s.extract i (i + n)).data.toList.length = n := by rw [← size_len, ext_size s i (i + n) p2 (by omega)]; omega
    have z2 : (s.extract (i + n) (i + n + m)).data.toList.length = m := by rw [← size_len, ext_size s (i + n) (i + n + m) q2 (by omega)]; omega
    have e1 : ∀ t, t < n → fb (s.extract i (i + n)).data.toList t = fAt s i t := fun t ht => fb_ext s i (i + n) t (by omega)
    have e2 : ∀ t, t < m → fb (s.extract (i + n) (i + n + m)).data.toList t = fAt s i (n + t) := fun t ht => by
      rw [fb_ext s (i + n) (i + n + m) t (by omega)]; unfold fAt; rw [Nat.add_assoc]
    have hv : LynF (fun t => fAt s i (n + t)) m := lyn_congr (fun t _ => by unfold fAt; rw [Nat.add_assoc]) b1
    refine a2 (n + m) (by omega) (by omega) (lyn_join p1 q1 a1 hv ?_)
    rcases bl_any _ _ hb with ⟨j, h1, h2, h3, h4⟩ | ⟨h1, h2⟩
    · rw [z1] at h1; rw [z2] at h2
      refine .inl ⟨j, h1, h2, fun t ht => ?_, ?_⟩
      · rw [← e1 t (by omega), ← e2 t (by omega)]; exact h3 t ht
      · rw [← e1 j h1, ← e2 j h2]; exact h4
    · rw [z1, z2] at h1
      rw [z1] at h2
      refine .inr ⟨h1, fun t ht => ?_⟩
      rw [← e1 t ht, ← e2 t (by omega)]; exact h2 t ht

def catS (l : List ByteArray) : List UInt8 := l.flatMap fun x => x.data.toList
theorem catS_snoc (l : List ByteArray) (x : ByteArray) : catS (l ++ [x]) = catS l ++ x.data.toList := by simp [catS]
theorem partsG_cat (s : ByteArray) : ∀ f i, i ≤ s.size → s.size < f + i → catS (partsG s f i) = s.data.toList.drop i
  | 0, i, h1, h2 => by omega
  | f + 1, i, h1, h2 => by
    unfold partsG
    split
    · rename_i hi
      obtain ⟨p1, p2⟩ := lonO_pos hi
      have ih := partsG_cat s f (i + lonO s i) p2 (by omega)
      have e : catS (s.extract i (i + lonO s i) :: partsG s f (i + lonO s i)) = (s.extract i (i + lonO s i)).data.toList ++ catS (partsG s f (i + lonO s i)) := rfl
      rw [e, ih, ext_data, show i + lonO s i - i = lonO s i by omega, ← List.drop_drop, List.take_append_drop]
    · rename_i hi
      rw [List.drop_of_length_le (by rw [← size_len]; omega)]; rfl
theorem partsG_chain (s : ByteArray) : ∀ f i, i ≤ s.size → (∀ x ∈ partsG s f i, ∃ j, j < s.size ∧ x = s.extract j (j + lonO s j)) ∧ (∀ x, (partsG s f i)[0]? = some x → x = s.extract i (i + lonO s i) ∧ i < s.size) ∧ ∀ k x y, (partsG s f i)[k]? = some x → (partsG s f i)[k + 1]? = some y → Op.bytesLess x.toList y.toList = false
  | 0, i, _ => by simp [partsG]
  | f + 1, i, h => by
    unfold partsG
    split
    · rename_i hi
      obtain ⟨p1, p2⟩ := lonO_pos hi
      obtain ⟨g1, g2, g3⟩ := partsG_chain s f (i + lonO s i) p2
      refine ⟨fun x hx => ?_, fun x hx => ?_, fun k x y hx hy => ?_⟩
      · rcases List.mem_cons.1 hx with rfl | hx
        · exact ⟨i, hi, rfl⟩
        · exact g1 x hx
      · exact ⟨(Option.some.inj hx).symm, hi⟩
      · cases k with
        | zero =>
          have ex := Option.some.inj hx
          obtain ⟨ey, hj⟩ := g2 y hy
          rw [← ex, ey]
          exact parts_ge hi hj
        | succ k => exact g3 k x y hx hy
    · refine ⟨fun x hx => by simp at hx, fun x hx => by simp at hx, fun k x y hx hy => by simp at hx⟩
theorem parts_cat {s : ByteArray} (hw : wordL s.data.toList = true) : catS (partsW s) = s.data.toList := by
  unfold partsW; rw [if_pos hw, partsG_cat s (s.size + 1) 0 (by omega) (by omega), List.drop_zero]
theorem parts_lyn {s : ByteArray} (hw : wordL s.data.toList = true) {x : ByteArray} (hx : x ∈ partsW s) : lyW x = true ∧ wordL x.data.toList = true ∧ x.size ≤ s.size := by
  unfold partsW at hx; rw [if_pos hw] at hx
  obtain ⟨j, hj, rfl⟩ := (partsG_chain s (s.size + 1) 0 (by omega)).1 x hx
  obtain ⟨p1, p2⟩ := lonO_pos hj
  exact ⟨(ly_ext hw p2 p1).2 (lonO_spec hj).1, word_ext hw _ _, by rw [ext_size s j (j + lonO s j) p2 (by omega)]; omega⟩
theorem parts_down {s : ByteArray} {k : Nat} {x y : ByteArray} (hx : (partsW s)[k]? = some x) (hy : (partsW s)[k + 1]? = some y) : Op.bytesLess x.toList y.toList = false := by
  unfold partsW at hx hy
  split at hx
  · rename_i hw
    rw [if_pos hw] at hy
    exact (partsG_chain s (s.size + 1) 0 (by omega)).2.2 k x y hx hy
  · simp at hx
theorem parts_one {s : ByteArray} (hw : wordL s.data.toList = true) : lyW s = decide (((partsW s).length : Int) = 1) := by
  have e : partsW s = partsG s (s.size + 1) 0 := by unfold partsW; rw [if_pos hw]
  rw [e]
  rcases Nat.eq_zero_or_pos s.size with h0 | h1
  · have e2 : partsG s (s.size + 1) 0 = [] := by unfold partsG; rw [if_neg (by omega)]
    rw [e2]
    unfold lyW rootOk
    rw [(isEmpty_iff s).2 h0]; simp
  · obtain ⟨p1, p2⟩ := lonO_pos h1
    obtain ⟨l1, l2⟩ := lonO_spec h1
    have hf0 : ∀ n, LynF (fAt s 0) n ↔ LynF (fb s.data.toList) n := fun n => by
      have : fAt s 0 = fb s.data.toList := by funext t; unfold fAt; rw [Nat.zero_add]
      rw [this]
    rw [Nat.zero_add] at p2
    rw [Bool.eq_iff_iff, ly_iff hw h1, decide_eq_true_eq, ← hf0]
    have e2 : partsG s (s.size + 1) 0 = s.extract 0 (0 + lonO s 0) :: partsG s s.size (0 + lonO s 0) := by conv => lhs; unfold partsG; rw [if_pos h1]
    rw [e2, List.length_cons, Nat.zero_add]
    have hlen : ((partsG s s.size (lonO s 0)).length = 0) ↔ lonO s 0 = s.size := by
      obtain ⟨g, hg⟩ : ∃ g, s.size = g + 1 := ⟨s.size - 1, by omega⟩
      constructor
      · intro h
        rcases Nat.eq_or_lt_of_le p2 with h3 | h3
        · exact h3
        · rw [hg] at h; unfold partsG at h; rw [if_pos h3] at h; simp at h
      · intro h
        rw [hg]; unfold partsG; rw [if_neg (by omega)]; rfl
    constructor
    · intro hl
      have : lonO s 0 = s.size := by
        rcases Nat.eq_or_lt_of_le p2 with h3 | h3
        · exact h3
        · exact absurd hl (l2 s.size h3 (by omega))
      have := hlen.2 this; omega
    · intro hl
      have := hlen.1 (by omega)
      rw [← this]; exact l1
end Go.Proofs.Ytlmciomoimfajaa
