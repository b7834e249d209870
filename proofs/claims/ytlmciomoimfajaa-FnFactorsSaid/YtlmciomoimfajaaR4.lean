/- Plain lemmas for FnPalindromes: how many palindromes there are, the longest, closed words, directed words. No program in sight. -/
import Derived.Test.YtlmciomoimfajaaR3
import Derived.Test.YtlmciomoimfajaaT5
import Derived.Test.YtlmciomoimfajaaG7
import Derived.Test.YtlmciomoimfajaaU1
import Derived.Test.YtlmciomoimfajaaV7
import Derived.Test.YtlmciomoimfajaaL6
namespace Go.Proofs.Ytlmciomoimfajaa
set_option linter.unusedVariables false

theorem isPal_iff {s : ByteArray} : isPal s = true ↔ Pal s.data.toList := by unfold isPal Pal; exact decide_eq_true_iff
theorem inf_ext {s t : ByteArray} : t.data.toList <:+: s.data.toList ↔ ∃ j, j + t.size ≤ s.size ∧ t = s.extract j (j + t.size) := by
  constructor
  · rintro ⟨a, b, h⟩
    have hl := congrArg List.length h
    rw [List.length_append, List.length_append, ← size_len, ← size_len] at hl
    refine ⟨a.length, by omega, str_inj ?_⟩
    rw [ext_data, ← h, List.append_assoc, List.drop_left' rfl, show a.length + t.size - a.length = t.data.toList.length by rw [← size_len]; omega, List.take_left' rfl]
  · rintro ⟨j, h1, h2⟩
    rw [h2, ext_data]
    exact (List.take_prefix _ _).isInfix.trans (List.drop_suffix _ _).isInfix
theorem palW_mem {s x : ByteArray} (h : shortB s = true) : x ∈ palW s ↔ Pal x.data.toList ∧ x.data.toList <:+: s.data.toList := by
  unfold palW
  rw [if_pos h, uniqS_mem, List.mem_cons]
  unfold palRows
  rw [mem_rowsP]
  constructor
  · rintro (rfl | ⟨j, m, _, h2, h3, h4, h5, rfl⟩)
    · exact ⟨pal_nil', List.nil_infix⟩
    · refine ⟨isPal_iff.1 h5, ?_⟩
      rw [inf_ext]
      have hz := ext_size s j (j + m) (by omega) (by omega)
      refine ⟨j, by omega, ?_⟩
      rw [hz, show j + m - j = m by omega]
  · rintro ⟨h1, h2⟩
    obtain ⟨j, h3, h4⟩ := inf_ext.1 h2
    rcases Nat.eq_zero_or_pos x.size with h0 | h0
    · left
      exact str_inj (List.eq_nil_of_length_eq_zero (by rw [← size_len]; exact h0))
    · refine .inr ⟨j, x.size, by omega, by omega, h0, by omega, ?_, h4⟩
      unfold palP
      rw [← h4]; exact isPal_iff.2 h1
theorem asc_nodup {L : List ByteArray} (h : AscS L) : (bsL L).Nodup := by
  unfold AscS AscL at h
  exact h.imp fun {a b} hab e => by rw [e] at hab; exact List.lt_irrefl _ hab
theorem palW_asc (s : ByteArray) : AscS (palW s) := by
  unfold palW; split
  · exact uniqS_asc _
  · exact ascS_nil
theorem palW_count {s : ByteArray} (h : shortB s = true) : (palW s).length = (pf s.data.toList).length := by
  have hm : ∀ p, p ∈ bsL (palW s) ↔ p ∈ pf s.data.toList := fun p => by
    have := mem_bsL (l := palW s) (x := St p)
    rw [St_data] at this
    rw [this, palW_mem h, St_data, pf_mem]
  rw [← bsL_len]
  exact Nat.le_antisymm (nodup_le (asc_nodup (palW_asc s)) fun x hx => (hm x).1 hx) (nodup_le (pf_nodup _) fun x hx => (hm x).2 hx)
theorem short_of {s : ByteArray} (hw : wordL s.data.toList = true) (hs : s.size ≤ 60) : shortB s = true := shortB_iff.2 ⟨hw, hs⟩
theorem palW_le {s : ByteArray} (h : shortB s = true) : (palW s).length ≤ s.size + 1 := by
  rw [palW_count h, size_len]; exact pf_len _
theorem palW_empty {s : ByteArray} (h : shortB s = true) : (⟨#[]⟩ : ByteArray) ∈ palW s := (palW_mem h).2 ⟨pal_nil', List.nil_infix⟩
theorem rev_wordR {s : ByteArray} (hw : wordL s.data.toList = true) : wordL (rev s).data.toList = true := by
  rw [rev_data]
  exact wordL_mk (fun c hc => wordL_all hw c (List.mem_reverse.1 hc)) (by rw [List.length_reverse]; exact wordL_len hw)
theorem inf_rev {a b : List UInt8} (h : a <:+: b) : a.reverse <:+: b.reverse := List.reverse_infix.2 h
theorem palW_rev {s : ByteArray} (h : shortB s = true) : palW (rev s) = palW s := by
  have h2 : shortB (rev s) = true := short_of (rev_wordR (shortB_iff.1 h).1) (by rw [rev_size]; exact (shortB_iff.1 h).2)
  refine ascS_ext (palW_asc _) (palW_asc _) fun x => ?_
  rw [palW_mem h2, palW_mem h, rev_data]
  constructor
  · rintro ⟨h3, h4⟩
    have := inf_rev h4
    rw [List.reverse_reverse, ← (show x.data.toList = x.data.toList.reverse from h3)] at this
    exact ⟨h3, this⟩
  · rintro ⟨h3, h4⟩
    have := inf_rev h4
    rw [← (show x.data.toList = x.data.toList.reverse from h3)] at this
    exact ⟨h3, this⟩
theorem defW_eq {s : ByteArray} (h : shortB s = true) : defW s = (s.size : Int) + 1 - ((palW s).length : Int) := by unfold defW; rw [if_pos h]
theorem defW_rev {s : ByteArray} (h : shortB s = true) : defW (rev s) = defW s := by
  have h2 : shortB (rev s) = true := short_of (rev_wordR (shortB_iff.1 h).1) (by rw [rev_size]; exact (shortB_iff.1 h).2)
  rw [defW_eq h, defW_eq h2, palW_rev h, rev_size]
/-- the longest palindrome -/
theorem lp_facts {s : ByteArray} {i n : Nat} (hsh : shortB s = true) (h : LpP s.data.toList i n) : i + n ≤ s.size ∧ isPal (s.extract i (i + n)) = true ∧ ∀ x ∈ palW s, x.size ≤ n := by
  have hl := size_len s
  rcases h with ⟨h0, rfl, rfl⟩ | ⟨h1, h2, h3⟩
  · refine ⟨by omega, ?_, fun x hx => ?_⟩
    · rw [isPal_iff, ext_data]; simp; exact pal_nil'
    · have := ((palW_mem hsh).1 hx).2.length_le
      rw [h0] at this
      rw [size_len]; simpa using this
  · have hle := h2.1
    refine ⟨by omega, (isPal_ext (by omega)).2 h2, fun x hx => ?_⟩
    obtain ⟨h4, h5⟩ := (palW_mem hsh).1 hx
    obtain ⟨j, h6, h7⟩ := inf_ext.1 h5
    rcases Nat.eq_zero_or_pos x.size with h0 | h0
    · omega
    · have hp : PalAt s.data.toList j x.size := (isPal_ext h6).1 (by rw [← h7]; exact isPal_iff.2 h4)
      have := h3 j x.size h0 hp
      omega
theorem pal_rev {x : ByteArray} (h : Pal x.data.toList) : rev x = x := str_inj (by rw [rev_data]; exact h.symm)
theorem contains_inf {s x : ByteArray} (h : x.data.toList <:+: s.data.toList) : Lib.contains s.data.toList x.data.toList = true := by
  obtain ⟨a, b, e⟩ := h
  have ho : Lib.occAt s.data.toList x.data.toList a.length = true := by
    unfold Lib.occAt
    rw [List.isPrefixOf_iff_prefix, ← e, List.append_assoc, List.drop_left' rfl]
    exact List.prefix_append _ _
  have hle : a.length ≤ s.data.toList.length := by rw [← e, List.length_append, List.length_append]; omega
  unfold Lib.contains
  rcases Lib.index_spec s.data.toList x.data.toList with ⟨_, h2⟩ | ⟨j, h1, _⟩
  · rw [h2 _ hle] at ho; cases ho
  · rw [h1]; exact decide_eq_true (by omega)

/-! the closed word -/
theorem close_word {s : ByteArray} (hw : wordL s.data.toList = true) (hs : s.size ≤ 14) : wordL (closeS s).data.toList = true ∧ (closeS s).size ≤ 28 ∧ s.size ≤ (closeS s).size ∧ (closeS s).size ≤ 2 * s.size := by
  have h1 := closeS_size s
  have h2 := closeL_ge s.data.toList
  have h3 : (closeS s).size = (closeL s.data.toList).length := by rw [closeS, St_size]
  refine ⟨?_, by omega, by rw [h3, size_len]; exact h2, h1⟩
  exact wordL_mk (fun c hc => wordL_all hw c (closeL_mem hc)) (by show (closeL s.data.toList).length ≤ 400; omega)
theorem close_isPal (s : ByteArray) : isPal (closeS s) = true := isPal_iff.2 (closeL_pal _)
theorem close_pre (s : ByteArray) : s.data.toList <+: (closeS s).data.toList := closeL_pre _
theorem close_same (s : ByteArray) : isPal s = ((closeS s).toList == s.toList) := by
  rw [Bool.eq_iff_iff, isPal_iff, Lib.toList_data, Lib.toList_data, beq_iff_eq]
  show _ ↔ closeL s.data.toList = s.data.toList
  constructor
  · intro h
    have h0 : ci s.data.toList = 0 := by
      rcases Nat.eq_zero_or_pos (ci s.data.toList) with h1 | h1
      · exact h1
      · exact absurd (by rw [List.drop_zero]; exact h) ((ci_spec s.data.toList).2 0 h1)
    unfold closeL; rw [h0]; simp
  · intro h; rw [← h]; exact closeL_pal _
theorem close_first {l : List UInt8} {k : Nat} (h1 : l.length ≤ k) (h2 : k < (closeL l).length) : ¬ Pal ((closeL l).take k) := by
  intro hp
  have hc := ci_le l
  obtain ⟨j, rfl⟩ : ∃ j, k = l.length + j := ⟨k - l.length, by omega⟩
  have hj : j < ci l := by
    unfold closeL at h2
    rw [List.length_append, List.length_reverse, List.length_take] at h2; omega
  refine (ci_spec l).2 j hj ?_
  have e : (closeL l).take (l.length + j) = l.take j ++ (l.drop j ++ ((l.take (ci l)).reverse).take j) := by
    unfold closeL
    rw [List.take_append, List.take_of_length_le (by omega), show l.length + j - l.length = j by omega, ← List.append_assoc, List.take_append_drop]
  rw [e] at hp
  unfold Pal at hp ⊢
  rw [List.reverse_append, List.reverse_append, List.append_assoc] at hp
  have lA : (l.take j).length = j := by rw [List.length_take]; omega
  have lB : (((l.take (ci l)).reverse).take j).length = j := by rw [List.length_take, List.length_reverse, List.length_take]; omega
  have i1 := (List.append_inj hp (by rw [List.length_reverse, lA, lB])).2
  exact (List.append_inj i1 (by rw [List.length_reverse])).1
theorem close_not {s : ByteArray} {k : Nat} (h1 : s.size ≤ k) (h2 : k < (closeS s).size) : ((rev ((closeS s).extract 0 k)).toList == ((closeS s).extract 0 k).toList) = false := by
  have h3 : (closeS s).size = (closeL s.data.toList).length := by rw [closeS, St_size]
  have h4 := close_first (l := s.data.toList) (k := k) (by rw [← size_len]; exact h1) (by omega)
  rw [beq_eq_false_iff_ne, Lib.toList_data, Lib.toList_data, rev_data, ext_data, List.drop_zero, Nat.sub_zero]
  exact fun e => h4 e.symm
/-! directed words -/
theorem let3_cases {v : List UInt8} (h : letL 3 v) : ∀ c ∈ v, c = 97 ∨ c = 98 ∨ c = 99 := fun c hc => by
  have := h c hc
  have h2 : c.toNat = 97 ∨ c.toNat = 98 ∨ c.toNat = 99 := by omega
  rcases h2 with e | e | e
  · exact .inl (UInt8.toNat_inj.1 e)
  · exact .inr (.inl (UInt8.toNat_inj.1 e))
  · exact .inr (.inr (UInt8.toNat_inj.1 e))
theorem dir_rich {v : List UInt8} (h : letL 3 v) (hl : v.length ≤ 6) (hs : (dirF v).length ≤ 60) : defW (St (dirF v)) = 0 := by
  have hr := dirF_rich hl (let3_cases h)
  have hw := dirF_word (v := v) (fun c hc => abcd_iff.2 (by have := h c hc; omega)) hl
  have hsh : shortB (St (dirF v)) = true := short_of hw.1 (by rw [St_size]; exact hs)
  rw [defW_eq hsh, palW_count hsh, St_data, St_size]
  unfold Rich at hr
  rw [hr]; omega
theorem dir_closed {v : List UInt8} (hw : ∀ c ∈ v, abcd c = true) (hl : v.length ≤ 6) {n : Nat} (h1 : 1 ≤ n) (h3 : n ≤ 3) : clW (St (dirF v)) (n : Int) = true := by
  have hword := (dirF_word hw hl).1
  unfold clW
  rw [St_data, hword, inB_iff.2 (show (1 : Int) ≤ (n : Int) ∧ (n : Int) ≤ 60 by omega), Int.toNat_natCast]
  simp only [Bool.true_and]
  unfold clB
  rw [List.all_eq_true]
  intro f hf
  rw [memB_iff, facW_mem]
  have hz := facW_size hf
  obtain ⟨i, h4, h5⟩ := facW_mem.1 hf
  have hinf : f.data.toList <:+: (St (dirF v)).data.toList := inf_ext.2 ⟨i, by omega, by rw [hz]; exact h5⟩
  have hrev : (rev f).data.toList <:+: (St (dirF v)).data.toList := by
    have := inf_rev hinf
    rw [St_data, ← (show dirF v = (dirF v).reverse from dirF_pal v)] at this
    exact this
  obtain ⟨j, h6, h7⟩ := inf_ext.1 hrev
  rw [rev_size, hz] at h6 h7
  exact ⟨j, h6, h7⟩
theorem dir_init {v : ByteArray} (h1 : 1 ≤ v.size) : ∃ d c, v.data.toList = d ++ [c] ∧ (v.extract 0 (v.size - 1)).data.toList = d ∧ dirF d <+: dirF v.data.toList ∧ (dirF d).length < (dirF v.data.toList).length := by
  rcases snoc_cases v.data.toList with h | ⟨d, c, h⟩
  · rw [size_len, h] at h1; simp at h1
  · have hz : v.size = d.length + 1 := by rw [size_len, h]; simp
    refine ⟨d, c, h, ?_, ?_, ?_⟩
    · rw [ext_data, h, List.drop_zero, hz, show d.length + 1 - 1 - 0 = d.length by omega, List.take_left' rfl]
    · rw [h]; exact dirF_pre d [c]
    · rw [h]
      have := (dirF_next d c).length_le
      rw [List.length_append] at this
      simp only [List.length_cons, List.length_nil] at this
      omega
end Go.Proofs.Ytlmciomoimfajaa
