/- Plain lemmas: Lyndon words: each end of the word is greater than the word at the first letter that differs; as the turns say it; Duval's steps; the longest Lyndon beginning. No program in sight. -/
import Derived.Test.YtlmciomoimfajaaC2
namespace Go.Proofs.Ytlmciomoimfajaa
set_option linter.unusedVariables false

def fb (l : List UInt8) (i : Nat) : Nat := (l.getD i 0).toNat
def FirstLt (f g : Nat → Nat) (n : Nat) : Prop := ∃ j, j < n ∧ (∀ i, i < j → f i = g i) ∧ f j < g j
theorem fb_cons (a : UInt8) (l : List UInt8) (i : Nat) : fb (a :: l) (i + 1) = fb l i := rfl
theorem fb_zero (a : UInt8) (l : List UInt8) : fb (a :: l) 0 = a.toNat := rfl
theorem bl_iff : ∀ (a b : List UInt8), a.length = b.length → (Op.bytesLess a b = true ↔ FirstLt (fb a) (fb b) a.length)
  | [], [], _ => by
    constructor
    · intro h; simp [Op.bytesLess] at h
    · rintro ⟨j, h, _⟩; simp at h
  | [], _ :: _, h => by simp at h
  | _ :: _, [], h => by simp at h
  | a :: x, b :: y, h => by
    have ih := bl_iff x y (by simpa using h)
    simp only [Op.bytesLess, Bool.or_eq_true, Bool.and_eq_true, decide_eq_true_eq, beq_iff_eq]
    constructor
    · rintro (hh | ⟨rfl, hh⟩)
      · exact ⟨0, by simp, fun i hi => by omega, by rw [fb_zero, fb_zero]; exact UInt8.lt_iff_toNat_lt.1 hh⟩
      · obtain ⟨j, h1, h2, h3⟩ := ih.1 hh
        refine ⟨j + 1, by simpa using h1, fun i hi => ?_, h3⟩
        cases i with
        | zero => rfl
        | succ i => exact h2 i (by omega)
    · rintro ⟨j, h1, h2, h3⟩
      cases j with
      | zero => exact .inl (UInt8.lt_iff_toNat_lt.2 h3)
      | succ j =>
        refine .inr ⟨UInt8.toNat_inj.1 (h2 0 (by omega)), ih.2 ⟨j, by simpa using h1, fun i hi => h2 (i + 1) (by omega), h3⟩⟩
theorem bl_tri : ∀ (a b : List UInt8), a.length = b.length → (Op.bytesLess a b = true ↔ Op.bytesLess b a = false ∧ (b == a) = false)
  | [], [], _ => by simp [Op.bytesLess]
  | [], _ :: _, h => by simp at h
  | _ :: _, [], h => by simp at h
  | a :: x, b :: y, h => by
    have ih := bl_tri x y (by simpa using h)
    by_cases hab : a = b
    · subst hab
      simp only [Op.bytesLess, UInt8.lt_irrefl, decide_false, beq_self_eq_true, Bool.true_and, Bool.false_or, List.cons_beq_cons]
      exact ih
    · have e1 : (a == b) = false := by simpa using hab
      have e2 : (b == a) = false := by simpa using fun h => hab h.symm
      simp only [Op.bytesLess, List.cons_beq_cons, e1, e2, Bool.false_and, Bool.or_false]
      have : a.toNat ≠ b.toNat := fun h => hab (UInt8.toNat_inj.1 h)
      simp only [decide_eq_true_eq, decide_eq_false_iff_not, UInt8.lt_iff_toNat_lt, and_true]
      omega

def LynF (f : Nat → Nat) (n : Nat) : Prop := ∀ r, 0 < r → r < n → ∃ j, r + j < n ∧ (∀ i, i < j → f (r + i) = f i) ∧ f j < f (r + j)
def rotF (f : Nat → Nat) (n r i : Nat) : Nat := if i < n - r then f (r + i) else f (i - (n - r))
theorem lyn_turns (f : Nat → Nat) (n : Nat) : LynF f n ↔ ∀ r, 0 < r → r < n → FirstLt f (rotF f n r) n := by
  constructor
  · intro h r h0 hr
    obtain ⟨j, h1, h2, h3⟩ := h r h0 hr
    refine ⟨j, by omega, fun i hi => ?_, ?_⟩
    · unfold rotF; rw [if_pos (by omega)]; exact (h2 i hi).symm
    · unfold rotF; rw [if_pos (by omega)]; exact h3
  · intro H r h0 hr
    obtain ⟨j, h1, h2, h3⟩ := H r h0 hr
    by_cases hj : j < n - r
    · refine ⟨j, by omega, fun i hi => ?_, ?_⟩
      · have := h2 i hi; unfold rotF at this; rw [if_pos (by omega)] at this; exact this.symm
      · unfold rotF at h3; rwa [if_pos hj] at h3
    · exfalso
      have hb : ∀ e, e < j - (n - r) → f ((n - r) + e) = f e := by
        intro e he
        have := h2 ((n - r) + e) (by omega)
        unfold rotF at this; rw [if_neg (by omega)] at this
        rw [this]; congr 1; omega
      have hd : f ((n - r) + (j - (n - r))) < f (j - (n - r)) := by
        unfold rotF at h3; rw [if_neg hj] at h3
        rw [show (n - r) + (j - (n - r)) = j by omega]; exact h3
      obtain ⟨d, hd0⟩ : ∃ d, d = j - (n - r) := ⟨_, rfl⟩
      rw [← hd0] at hb hd
      obtain ⟨j', k1, k2, k3⟩ := H (n - r) (by omega) (by omega)
      rcases Nat.lt_trichotomy j' d with h | h | h
      · unfold rotF at k3; rw [if_pos (by omega), hb j' h] at k3; omega
      · subst h; unfold rotF at k3; rw [if_pos (by omega)] at k3; omega
      · have := k2 d h; unfold rotF at this; rw [if_pos (by omega)] at this; omega
theorem lyn_congr {f g : Nat → Nat} {n : Nat} (h : ∀ t, t < n → f t = g t) (hl : LynF f n) : LynF g n := by
  intro r h0 hr
  obtain ⟨j, h1, h2, h3⟩ := hl r h0 hr
  exact ⟨j, h1, fun i hi => by rw [← h _ (by omega), ← h _ (by omega)]; exact h2 i hi, by rw [← h _ (by omega), ← h _ (by omega)]; exact h3⟩
theorem lyn_one (f : Nat → Nat) : LynF f 1 := fun r h0 hr => by omega

theorem fb_rot (l : List UInt8) (r i : Nat) (hr : r ≤ l.length) (hi : i < l.length) : fb (l.drop r ++ l.take r) i = rotF (fb l) l.length r i := by
  unfold fb rotF
  simp only [List.getD_eq_getElem?_getD]
  by_cases h : i < l.length - r
  · rw [if_pos h, List.getElem?_append_left (by simpa using h), List.getElem?_drop]
  · rw [if_neg h, List.getElem?_append_right (by simpa using Nat.le_of_not_lt h), List.length_drop, List.getElem?_take, if_pos (by omega)]
theorem firstLt_congr {f g g' : Nat → Nat} {n : Nat} (h : ∀ i, i < n → g i = g' i) : FirstLt f g n ↔ FirstLt f g' n := by
  constructor
  · rintro ⟨j, h1, h2, h3⟩; exact ⟨j, h1, fun i hi => by rw [h2 i hi, h i (by omega)], by rw [← h j h1]; exact h3⟩
  · rintro ⟨j, h1, h2, h3⟩; exact ⟨j, h1, fun i hi => by rw [h2 i hi, h i (by omega)], by rw [h j h1]; exact h3⟩
theorem le_turn (s : ByteArray) (r : Nat) (hr : r ≤ s.size) : leB (rotS s r) s = false ↔ FirstLt (fb s.data.toList) (rotF (fb s.data.toList) s.size r) s.size := by
  have hl := size_len s
  have hlen : (s.data.toList.drop r ++ s.data.toList.take r).length = s.data.toList.length := by simp; omega
  have e : (rotS s r).toList = s.data.toList.drop r ++ s.data.toList.take r := by rw [Lib.toList_data]; rfl
  unfold leB
  rw [e, Lib.toList_data, Bool.or_eq_false_iff, ← bl_tri _ _ hlen.symm, bl_iff _ _ hlen.symm, hl]
  exact firstLt_congr fun i hi => fb_rot _ _ _ (by omega) hi
theorem ly_iff {s : ByteArray} (hw : wordL s.data.toList = true) (h1 : 1 ≤ s.size) : lyW s = true ↔ LynF (fb s.data.toList) s.size := by
  unfold lyW rootOk
  rw [hw, isEmpty_no h1, lyn_turns]
  simp only [Bool.true_and, Bool.not_false, cB_iff]
  constructor
  · intro h r h0 hr; exact (le_turn s r (by omega)).1 (h r h0 hr)
  · intro h r h0 hr; exact (le_turn s r (by omega)).2 (h r h0 hr)

/-- the letters from i on -/
def fAt (s : ByteArray) (i t : Nat) : Nat := fb s.data.toList (i + t)
theorem fb_ext (s : ByteArray) (i j t : Nat) (ht : i + t < j) : fb (s.extract i j).data.toList t = fAt s i t := by
  unfold fAt fb
  simp only [List.getD_eq_getElem?_getD]
  rw [ext_data, List.getElem?_take, if_pos (by omega), List.getElem?_drop]
theorem word_ext {s : ByteArray} (hw : wordL s.data.toList = true) (i j : Nat) : wordL (s.extract i j).data.toList = true := by
  rw [ext_data]
  refine wordL_mk (fun c hc => wordL_all hw c (List.mem_of_mem_drop (List.mem_of_mem_take hc))) ?_
  have := wordL_len hw
  simp only [List.length_take, List.length_drop]; omega
theorem ly_ext {s : ByteArray} (hw : wordL s.data.toList = true) {i n : Nat} (h : i + n ≤ s.size) (h1 : 1 ≤ n) : lyW (s.extract i (i + n)) = true ↔ LynF (fAt s i) n := by
  have hsz : (s.extract i (i + n)).size = n := by rw [ext_size s i (i + n) h (by omega)]; omega
  rw [ly_iff (word_ext hw _ _) (by omega), hsz]
  constructor
  · exact lyn_congr fun t ht => fb_ext _ _ _ _ (by omega)
  · exact lyn_congr fun t ht => (fb_ext _ _ _ _ (by omega)).symm

/-! Duval -/
structure Duv (f : Nat → Nat) (k n N : Nat) : Prop where
  n1 : 1 ≤ n
  nk : n ≤ k
  kN : k ≤ N
  lyn : LynF f n
  per : ∀ j, j + n < k → f (j + n) = f j
theorem duv_one (f : Nat → Nat) {N : Nat} (h : 1 ≤ N) : Duv f 1 1 N := ⟨Nat.le_refl _, Nat.le_refl _, h, lyn_one f, fun j hj => by omega⟩
theorem duv_eq {f : Nat → Nat} {k n N : Nat} (h : Duv f k n N) (hk : k < N) (he : f (k - n) = f k) : Duv f (k + 1) n N := by
  obtain ⟨h1, h2, h3, h4, h5⟩ := h
  refine ⟨h1, by omega, by omega, h4, fun j hj => ?_⟩
  by_cases hjk : j + n < k
  · exact h5 j hjk
  · have : j = k - n := by omega
    subst this
    rw [show k - n + n = k by omega]; exact he.symm
theorem per_mul {f : Nat → Nat} {k n : Nat} (h : ∀ j, j + n < k → f (j + n) = f j) : ∀ q j, j + q * n < k → f (j + q * n) = f j
  | 0, j, _ => by rw [Nat.zero_mul, Nat.add_zero]
  | q + 1, j, hq => by
    have e : (q + 1) * n = q * n + n := Nat.succ_mul q n
    rw [e] at hq ⊢
    rw [show j + (q * n + n) = (j + q * n) + n by omega, h (j + q * n) (by omega)]
    exact per_mul h q j (by omega)
theorem duv_lt {f : Nat → Nat} {k n N : Nat} (h : Duv f k n N) (hk : k < N) (hlt : f (k - n) < f k) : Duv f (k + 1) (k + 1) N := by
  obtain ⟨h1, h2, h3, h4, h5⟩ := h
  refine ⟨by omega, Nat.le_refl _, by omega, ?_, fun j hj => by omega⟩
  intro r hr0 hr
  obtain ⟨q, r0, hqr, hr0n⟩ : ∃ q r0, r = r0 + q * n ∧ r0 < n := ⟨r / n, r % n, by rw [Nat.mul_comm]; exact (Nat.mod_add_div r n).symm, Nat.mod_lt _ (by omega)⟩
  by_cases hz : r0 = 0
  · subst hz
    have hq : 1 ≤ q := by
      rcases Nat.eq_zero_or_pos q with h | h
      · subst h; simp at hqr; omega
      · exact h
    have hm : q * n = (q - 1) * n + n := by rw [← Nat.succ_mul]; congr 1; omega
    refine ⟨k - r, by omega, fun i hi => ?_, ?_⟩
    · have := per_mul h5 q i (by omega)
      rw [show r + i = i + q * n by omega]; exact this
    · rw [show r + (k - r) = k by omega]
      have := per_mul h5 (q - 1) (k - r) (by omega)
      rw [show k - r + (q - 1) * n = k - n by omega] at this
      omega
  · obtain ⟨j0, g1, g2, g3⟩ := h4 r0 (by omega) hr0n
    by_cases hj : r + j0 < k
    · refine ⟨j0, by omega, fun i hi => ?_, ?_⟩
      · rw [show r + i = (r0 + i) + q * n by omega, per_mul h5 q (r0 + i) (by omega)]; exact g2 i hi
      · rw [show r + j0 = (r0 + j0) + q * n by omega, per_mul h5 q (r0 + j0) (by omega)]; exact g3
    · have hq : 1 ≤ q := by
        rcases Nat.eq_zero_or_pos q with h | h
        · subst h; simp at hqr; omega
        · exact h
      have hm : q * n = (q - 1) * n + n := by rw [← Nat.succ_mul]; congr 1; omega
      refine ⟨k - r, by omega, fun i hi => ?_, ?_⟩
      · rw [show r + i = (r0 + i) + q * n by omega, per_mul h5 q (r0 + i) (by omega)]; exact g2 i (by omega)
      · rw [show r + (k - r) = k by omega]
        have e1 := per_mul h5 (q - 1) (r0 + (k - r)) (by omega)
        rw [show r0 + (k - r) + (q - 1) * n = k - n by omega] at e1
        have e2 : f (k - r) ≤ f (r0 + (k - r)) := by
          rcases Nat.lt_or_ge (k - r) j0 with h | h
          · rw [g2 (k - r) h]; exact Nat.le_refl _
          · rw [show k - r = j0 by omega]; exact Nat.le_of_lt g3
        omega
def DuvStop (f : Nat → Nat) (k n N : Nat) : Prop := k = N ∨ f k < f (k - n)
theorem duv_end {f : Nat → Nat} {k n N : Nat} (h : Duv f k n N) (hs : DuvStop f k n N) {p : Nat} (hp : n < p) (hpN : p ≤ N) : ¬ LynF f p := by
  intro hl
  obtain ⟨h1, h2, h3, h4, h5⟩ := h
  obtain ⟨j, g1, g2, g3⟩ := hl n (by omega) hp
  by_cases hj : n + j < k
  · rw [Nat.add_comm n j, h5 j (by omega)] at g3; omega
  · rcases hs with rfl | hs
    · omega
    · rcases Nat.lt_or_ge (k - n) j with h | h
      · have := g2 (k - n) h; rw [show n + (k - n) = k by omega] at this; omega
      · rw [show j = k - n by omega, show n + (k - n) = k by omega] at g3; omega
theorem duv_drop {f : Nat → Nat} {k n N : Nat} (h : Duv f k n N) (hs : DuvStop f k n N) (h2n : 2 * n ≤ k) : Duv (fun t => f (n + t)) (k - n) n (N - n) ∧ DuvStop (fun t => f (n + t)) (k - n) n (N - n) := by
  obtain ⟨h1, h2, h3, h4, h5⟩ := h
  refine ⟨⟨h1, by omega, by omega, ?_, fun j hj => ?_⟩, ?_⟩
  · refine lyn_congr (fun t ht => ?_) h4
    rw [Nat.add_comm n t, h5 t (by omega)]
  · rw [show n + (j + n) = (n + j) + n by omega]; exact h5 (n + j) (by omega)
  · rcases hs with rfl | hs
    · exact .inl rfl
    · refine .inr ?_
      show f (n + (k - n)) < f (n + (k - n - n))
      rw [show n + (k - n) = k by omega, show n + (k - n - n) = k - n by omega]; exact hs

/-- the longest Lyndon beginning of at most n letters from i on -/
noncomputable def lonG (s : ByteArray) (i : Nat) : Nat → Nat
  | 0 => 0
  | n + 1 => if cB (LynF (fAt s i) (n + 1)) = true then n + 1 else lonG s i n
theorem lonG_le (s : ByteArray) (i : Nat) : ∀ n, lonG s i n ≤ n
  | 0 => Nat.le_refl _
  | n + 1 => by have := lonG_le s i n; unfold lonG; split <;> omega
theorem lonG_pos (s : ByteArray) (i : Nat) : ∀ n, 1 ≤ n → 1 ≤ lonG s i n
  | 0, h => by omega
  | 1, _ => by unfold lonG; rw [if_pos (cB_true (lyn_one _))]; exact Nat.le_refl _
  | n + 2, _ => by have := lonG_pos s i (n + 1) (by omega); unfold lonG; split <;> omega
theorem lonG_is {s : ByteArray} {i n : Nat} (hn : 1 ≤ n) (hl : LynF (fAt s i) n) : ∀ m, n ≤ m → (∀ p, n < p → p ≤ m → ¬ LynF (fAt s i) p) → lonG s i m = n
  | 0, h, _ => by omega
  | m + 1, h, hp => by
    unfold lonG
    rcases Nat.eq_or_lt_of_le h with rfl | h
    · rw [if_pos (cB_true hl)]
    · rw [if_neg (by rw [cB_false (hp (m + 1) (by omega) (Nat.le_refl _))]; decide)]
      exact lonG_is hn hl m (by omega) fun p a b => hp p a (by omega)
noncomputable def lonO (s : ByteArray) (i : Nat) : Nat := lonG s i (s.size - i)
theorem lon_duv {s : ByteArray} {i k n : Nat} (h : Duv (fAt s i) k n (s.size - i)) (hs : DuvStop (fAt s i) k n (s.size - i)) : lonO s i = n :=
  lonG_is h.n1 h.lyn _ (by have := h.nk; have := h.kN; omega) fun p a b => duv_end h hs a b
noncomputable def partsG (s : ByteArray) : Nat → Nat → List ByteArray
  | 0, _ => []
  | f + 1, i => if i < s.size then s.extract i (i + lonO s i) :: partsG s f (i + lonO s i) else []
noncomputable def partsW (s : ByteArray) : List ByteArray := if wordL s.data.toList = true then partsG s (s.size + 1) 0 else []
theorem lonO_pos {s : ByteArray} {i : Nat} (h : i < s.size) : 1 ≤ lonO s i ∧ i + lonO s i ≤ s.size :=
  ⟨lonG_pos _ _ _ (by omega), by have := lonG_le s i (s.size - i); unfold lonO; omega⟩
theorem partsG_len (s : ByteArray) : ∀ f i, (partsG s f i).length ≤ f
  | 0, _ => by simp [partsG]
  | f + 1, i => by
    have := partsG_len s f (i + lonO s i)
    unfold partsG; split
    · simp only [List.length_cons]; omega
    · simp
theorem partsW_len (s : ByteArray) : (partsW s).length ≤ s.size + 1 := by
  unfold partsW; split
  · exact partsG_len _ _ _
  · simp
theorem parts_step {s : ByteArray} {f i : Nat} {acc R : List ByteArray} (h : acc ++ partsG s f i = R) (hi : i < s.size) (hf : s.size < f + i) : acc ++ [s.extract i (i + lonO s i)] ++ partsG s (f - 1) (i + lonO s i) = R := by
  obtain ⟨g, rfl⟩ : ∃ g, f = g + 1 := ⟨f - 1, by omega⟩
  rw [← h, partsG, if_pos hi]; simp
theorem parts_end {s : ByteArray} {f i : Nat} {acc R : List ByteArray} (h : acc ++ partsG s f i = R) (hi : s.size ≤ i) : acc = R := by
  rw [← h]
  cases f with
  | zero => simp [partsG]
  | succ f => rw [partsG, if_neg (by omega)]; simp
end Go.Proofs.Ytlmciomoimfajaa
