/- Plain lemmas for FnPeriods: the least turn of a word: no turn is before it; it is Lyndon exactly where the word is primitive. No program in sight. -/
import Derived.Test.YtlmciomoimfajaaQ3
import Derived.Test.YtlmciomoimfajaaC2
import Derived.Test.YtlmciomoimfajaaF1
import Derived.Sort.Walk0
namespace Go.Proofs.Ytlmciomoimfajaa
open Go.RowKit
set_option linter.unusedVariables false

theorem ltB_iff {a b : ByteArray} : ltB a b = true ↔ a.data.toList < b.data.toList := by
  unfold ltB; rw [bytesLess_eq, decide_eq_true_eq, Lib.toList_data, Lib.toList_data]
theorem lsGo_spec (s : ByteArray) : ∀ n, 1 ≤ n → lsGo s n < n ∧ ∀ j, j < n → ¬ (rotS s j).data.toList < (rotS s (lsGo s n)).data.toList
  | 0, h => by omega
  | 1, _ => by
    have e : lsGo s 1 = 0 := by
      have := lsGo_le s 1
      unfold lsGo lsGo
      split <;> rfl
    rw [e]
    refine ⟨by omega, fun j hj => ?_⟩
    obtain rfl : j = 0 := by omega
    exact List.lt_irrefl _
  | n + 2, _ => by
    obtain ⟨h1, h2⟩ := lsGo_spec s (n + 1) (by omega)
    rw [lsGo]
    split
    · rename_i hlt
      have hlt' := ltB_iff.1 hlt
      refine ⟨by omega, fun j hj => ?_⟩
      rcases Nat.lt_succ_iff_lt_or_eq.1 hj with hj | rfl
      · exact fun h => h2 j hj (List.lt_trans h hlt')
      · exact List.lt_irrefl _
    · rename_i hlt
      refine ⟨by omega, fun j hj => ?_⟩
      rcases Nat.lt_succ_iff_lt_or_eq.1 hj with hj | rfl
      · exact h2 j hj
      · exact fun h => hlt (ltB_iff.2 h)

/-- the letters of a turn -/
theorem rot_at (s : ByteArray) {k : Nat} (hk : k ≤ s.size) {i : Nat} (hi : i < s.size) : (rotS s k).data.toList[i]? = s.data.toList[(i + k) % s.size]? := by
  have hl := size_len s
  show (s.data.toList.drop k ++ s.data.toList.take k)[i]? = _
  rcases Nat.lt_or_ge i (s.size - k) with h | h
  · rw [List.getElem?_append_left (by rw [List.length_drop]; omega), List.getElem?_drop, Nat.mod_eq_of_lt (by omega), Nat.add_comm]
  · rw [List.getElem?_append_right (by rw [List.length_drop]; omega), List.length_drop, List.getElem?_take, if_pos (by omega)]
    congr 1
    rw [show i + k = (i - (s.data.toList.length - k)) + s.size by omega, Nat.add_mod_right, Nat.mod_eq_of_lt (by omega)]
theorem rot_len (s : ByteArray) {k : Nat} (hk : k ≤ s.size) : (rotS s k).size = s.size := by
  rw [rotS, St_size, List.length_append, List.length_drop, List.length_take, ← size_len]; omega
theorem str_ext {s t : ByteArray} (hz : s.size = t.size) (h : ∀ i, i < s.size → s.data.toList[i]? = t.data.toList[i]?) : s = t := by
  apply str_inj
  apply List.ext_getElem?
  intro i
  rcases Nat.lt_or_ge i s.size with hi | hi
  · exact h i hi
  · rw [List.getElem?_eq_none (by rw [← size_len]; exact hi), List.getElem?_eq_none (by rw [← size_len]; omega)]
theorem rot_rot (s : ByteArray) {j k : Nat} (hj : j ≤ s.size) (hk : k ≤ s.size) {i : Nat} (hi : i < s.size) : (rotS (rotS s k) j).data.toList[i]? = s.data.toList[(i + j + k) % s.size]? := by
  have hz := rot_len s hk
  rw [rot_at (rotS s k) (by omega) (by omega), hz, rot_at s hk (Nat.mod_lt _ (by omega))]
  rw [Nat.mod_add_mod]
theorem rot_comm (s : ByteArray) {j k : Nat} (hj : j ≤ s.size) (hk : k ≤ s.size) : rotS (rotS s k) j = rotS (rotS s j) k := by
  have h1 := rot_len s hk
  have h2 := rot_len s hj
  refine str_ext (by rw [rot_len (rotS s k) (by omega), rot_len (rotS s j) (by omega), h1, h2]) fun i hi => ?_
  rw [rot_len _ (by omega), h1] at hi
  rw [rot_rot s hj hk hi, rot_rot s hk hj hi, Nat.add_right_comm]
theorem rot_undo (s : ByteArray) {k : Nat} (hk : k ≤ s.size) : rotS (rotS s k) (s.size - k) = s := by
  have h1 := rot_len s hk
  refine str_ext (by rw [rot_len _ (by omega), h1]) fun i hi => ?_
  rw [rot_len _ (by omega), h1] at hi
  rw [rot_rot s (by omega) hk hi, show i + (s.size - k) + k = i + s.size by omega, Nat.add_mod_right, Nat.mod_eq_of_lt hi]
/-- some turn gives the word back -/
def Turns (s : ByteArray) : Prop := ∃ j, 1 ≤ j ∧ j < s.size ∧ rotS s j = s
theorem turns_rot (s : ByteArray) {k : Nat} (hk : k ≤ s.size) : Turns (rotS s k) ↔ Turns s := by
  have h1 := rot_len s hk
  unfold Turns
  rw [h1]
  constructor
  · rintro ⟨j, a, b, e⟩
    refine ⟨j, a, b, ?_⟩
    rw [rot_comm s (by omega) hk] at e
    have h2 := rot_len s (k := j) (by omega)
    have := congrArg (fun x => rotS x (s.size - k)) e
    have e2 := rot_undo (rotS s j) (k := k) (by omega)
    rw [h2] at e2
    exact e2.symm.trans (this.trans (rot_undo s hk))
  · rintro ⟨j, a, b, e⟩
    exact ⟨j, a, b, by rw [rot_comm s (by omega) hk, e]⟩
theorem turns_root {s : ByteArray} (h1 : 1 ≤ s.size) : Turns s ↔ rootOf s.data.toList ≠ s.size := by
  have hl := size_len s
  obtain ⟨r1, r2, r3, r4⟩ := rootOf_spec (l := s.data.toList) (by omega)
  rw [← hl] at r3
  constructor
  · rintro ⟨j, a, b, e⟩ hr
    have hF : Per (fun i => s.data.toList[i % s.size]?) (j + s.size) j := fun i hi => by
      have hm := Nat.mod_lt i (show s.size > 0 by omega)
      have e2 := rot_at s (k := j) (by omega) hm
      rw [e, Nat.mod_add_mod] at e2
      exact e2.symm
    have hN : Per (fun i => s.data.toList[i % s.size]?) (j + s.size) s.size := fun i hi => by
      show s.data.toList[(i + s.size) % s.size]? = _
      rw [Nat.add_mod_right]
    have hg := fine_wilf (j + s.size) j s.size (j + s.size) (Nat.le_refl _) (by omega) (by omega) hF hN (by omega)
    have g0 : 0 < Nat.gcd j s.size := Nat.gcd_pos_of_pos_left _ (by omega)
    have g1 : Nat.gcd j s.size ≤ j := Nat.gcd_le_left _ (by omega)
    refine r4 (Nat.gcd j s.size) g0 (by omega) (isRoot_Per.2 ⟨by rw [← hl]; exact Nat.gcd_dvd_right _ _, ?_⟩)
    rw [← hl]
    intro i hi
    have := hg i (by omega)
    simp only at this
    rw [Nat.mod_eq_of_lt hi, Nat.mod_eq_of_lt (by omega)] at this
    exact this
  · intro hr
    obtain ⟨hd, hp⟩ := isRoot_Per.1 r1
    rw [← hl] at hd hp
    generalize hdd : rootOf s.data.toList = d at *
    refine ⟨d, r2, by omega, ?_⟩
    refine str_ext (rot_len s (by omega)) fun i hi => ?_
    rw [rot_len s (by omega)] at hi
    rw [rot_at s (by omega) hi]
    have e1 := per_mod hp (by omega) ((i + d) % s.size) (Nat.mod_lt _ (by omega))
    have e2 := per_mod hp (by omega) i hi
    rw [Nat.mod_mod_of_dvd _ hd, Nat.add_mod_right] at e1
    exact e1.trans e2.symm
theorem rotW {s : ByteArray} (hw : wordL s.data.toList = true) (k : Nat) : wordL (rotS s k).data.toList = true := by
  refine wordL_mk (fun c hc => ?_) ?_
  · rcases List.mem_append.1 hc with h | h
    · exact wordL_all hw c (List.mem_of_mem_drop h)
    · exact wordL_all hw c (List.mem_of_mem_take h)
  · have := wordL_len hw
    show (s.data.toList.drop k ++ s.data.toList.take k).length ≤ 400
    rw [List.length_append, List.length_drop, List.length_take]; omega
/-- the least turn is Lyndon exactly where the word is its own root -/
theorem least_lyn {s : ByteArray} (hw : wordL s.data.toList = true) (h1 : 1 ≤ s.size) : lyW (rotS s (lsGo s s.size)) = decide (rootN s = 1) := by
  obtain ⟨l1, l2⟩ := lsGo_spec s s.size h1
  have hz := rot_len s (k := lsGo s s.size) (by omega)
  have hok : rootOk s = true := by unfold rootOk; rw [hw, isEmpty_no h1]; rfl
  have hok2 : rootOk (rotS s (lsGo s s.size)) = true := by unfold rootOk; rw [rotW hw, isEmpty_no (by omega)]; rfl
  have hrn : rootN s = 1 ↔ rootOf s.data.toList = s.size := by
    have := root_one (l := s.data.toList) (by rw [← size_len]; exact h1)
    rw [← size_len] at this
    unfold rootN; rw [if_pos hok, ← this]; omega
  have htr := turns_rot s (k := lsGo s s.size) (by omega)
  rw [Bool.eq_iff_iff, decide_eq_true_eq, hrn]
  unfold lyW
  rw [hok2, Bool.true_and, cB_iff]
  have key : lyTo (rotS s (lsGo s s.size)) (rotS s (lsGo s s.size)).size ↔ ¬ Turns s := by
    rw [← htr]
    unfold lyTo Turns
    constructor
    · rintro h ⟨j, a, b, e⟩
      have := h j a b
      rw [e] at this
      unfold leB at this
      simp at this
    · intro h j a b
      rw [hz] at b
      cases hle : leB (rotS (rotS s (lsGo s s.size)) j) (rotS s (lsGo s s.size)) with
      | false => rfl
      | true =>
        exfalso
        unfold leB at hle
        rw [Bool.or_eq_true, beq_iff_eq] at hle
        rcases hle with hle | hle
        · have hlt := ltB_iff.1 (show ltB _ _ = true from hle)
          have e : rotS (rotS s (lsGo s s.size)) j = rotS s ((lsGo s s.size + j) % s.size) := by
            refine str_ext (by rw [rot_len _ (by omega), hz, rot_len s (Nat.le_of_lt (Nat.mod_lt _ (by omega)))]) fun i hi => ?_
            rw [rot_len _ (by omega), hz] at hi
            rw [rot_rot s (by omega) (by omega) hi, rot_at s (Nat.le_of_lt (Nat.mod_lt _ (by omega))) hi, Nat.add_mod_mod]
            congr 2; omega
          rw [e] at hlt
          exact l2 _ (Nat.mod_lt _ (by omega)) hlt
        · rw [Lib.toList_data, Lib.toList_data] at hle
          exact h ⟨j, a, by rw [hz]; exact b, str_inj hle⟩
  rw [key, turns_root h1]
  exact Decidable.not_not
theorem least_le {s : ByteArray} (h1 : 1 ≤ s.size) : Op.bytesLess s.toList (rotS s (lsGo s s.size)).toList = false := by
  obtain ⟨l1, l2⟩ := lsGo_spec s s.size h1
  have h := l2 0 h1
  have e : rotS s 0 = s := by apply str_inj; show s.data.toList.drop 0 ++ s.data.toList.take 0 = _; simp
  rw [e] at h
  cases hb : Op.bytesLess s.toList (rotS s (lsGo s s.size)).toList with
  | false => rfl
  | true => exact absurd (ltB_iff.1 (show ltB _ _ = true from hb)) h
end Go.Proofs.Ytlmciomoimfajaa
