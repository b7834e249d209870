/- Plain lemmas for FnPeriods: borders and periods belong together; two periods that overlap enough; the least period comes first. No program in sight. -/
import Derived.Test.YtlmciomoimfajaaQ1
import Derived.Test.YtlmciomoimfajaaV0
import Derived.Test.YtlmciomoimfajaaQ0
import Derived.Test.YtlmciomoimfajaaC3
import Derived.Test.YtlmciomoimfajaaB8
import Derived.Test.YtlmciomoimfajaaD1
namespace Go.Proofs.Ytlmciomoimfajaa
set_option linter.unusedVariables false

theorem bor_per (s : ByteArray) {n : Nat} (h : n ≤ s.size) : borB s n = powB s.data.toList 0 s.size (s.size - n) := by
  have e := ends_eq s (s.size - n) (by omega)
  rw [show s.size - (s.size - n) = n by omega] at e
  exact e
theorem pow_whole (s : ByteArray) : powB s.data.toList 0 s.size s.size = true := by
  have := pow_full s.data.toList
  rw [← size_len] at this; exact this
theorem per_list {s : ByteArray} (hw : wordL s.data.toList = true) (h1 : 1 ≤ s.size) : perW s = (borW s).reverse.map (fun x => (s.size : Int) - x) ++ [(s.size : Int)] := by
  have ep : perW s = selL (powB s.data.toList 0 s.size) s.size 1 := by unfold perW; rw [if_pos hw]
  have eb : borW s = selL (borB s) (s.size - 1) 1 := by unfold borW; rw [if_pos hw]
  rw [ep, eb]
  refine asc_ext (sel_asc _ _ _) ?_ fun x => ?_
  · unfold Asc
    rw [List.pairwise_append, List.pairwise_map, List.pairwise_reverse]
    refine ⟨?_, by simp, ?_⟩
    · refine (sel_asc (borB s) (s.size - 1) 1).imp ?_
      intro a b h; omega
    · intro a ha b hb
      obtain ⟨c, hc, rfl⟩ := List.mem_map.1 ha
      obtain ⟨k, rfl, h2, _, _⟩ := (sel_mem _ _ _ c).1 (List.mem_reverse.1 hc)
      rw [List.mem_singleton.1 hb]; omega
  · rw [sel_mem, List.mem_append, List.mem_map, List.mem_singleton]
    constructor
    · rintro ⟨k, rfl, h2, h3, h4⟩
      rcases Nat.lt_or_ge k s.size with hk | hk
      · refine .inl ⟨((s.size - k : Nat) : Int), List.mem_reverse.2 ((sel_mem _ _ _ _).2 ⟨s.size - k, rfl, by omega, by omega, ?_⟩), by omega⟩
        rw [bor_per s (by omega), show s.size - (s.size - k) = k by omega]; exact h4
      · exact .inr (by omega)
    · rintro (⟨c, hc, rfl⟩ | rfl)
      · obtain ⟨k, rfl, h2, h3, h4⟩ := (sel_mem _ _ _ c).1 (List.mem_reverse.1 hc)
        rw [bor_per s (by omega)] at h4
        exact ⟨s.size - k, by omega, by omega, by omega, h4⟩
      · exact ⟨s.size, rfl, by omega, by omega, pow_whole s⟩
theorem per_none {s : ByteArray} (h : s.size = 0) : perW s = [] ∧ borW s = [] := by
  unfold perW borW
  rw [h]
  constructor <;> split <;> rfl
theorem per_len {s : ByteArray} (hw : wordL s.data.toList = true) (h1 : 1 ≤ s.size) : (perW s).length = (borW s).length + 1 := by
  rw [per_list hw h1]; simp
theorem per_at {s : ByteArray} (hw : wordL s.data.toList = true) (h1 : 1 ≤ s.size) {i : Nat} (hi : i < (borW s).length) : gAt (perW s) i + gAt (borW s) ((borW s).length - 1 - i) = s.size := by
  have e : (perW s)[i]? = some ((s.size : Int) - gAt (borW s) ((borW s).length - 1 - i)) := by
    rw [per_list hw h1, List.getElem?_append_left (by simpa using hi), List.getElem?_map, List.getElem?_reverse hi, gAt_get (by omega)]; rfl
  rw [gAt_of e]; omega
theorem per_last {s : ByteArray} (hw : wordL s.data.toList = true) (h1 : 1 ≤ s.size) : gAt (perW s) (borW s).length = s.size := by
  refine gAt_of ?_
  rw [per_list hw h1, List.getElem?_append_right (by simp)]
  simp
theorem per_asc (s : ByteArray) : Asc (perW s) := by
  unfold perW; split
  · exact sel_asc _ _ _
  · simp [Asc]
theorem per_mem {s : ByteArray} {x : Int} (h : x ∈ perW s) : ∃ k : Nat, x = (k : Int) ∧ 1 ≤ k ∧ k ≤ s.size ∧ powB s.data.toList 0 s.size k = true := by
  unfold perW at h
  split at h
  · obtain ⟨k, e, h1, h2, h3⟩ := (sel_mem _ _ _ _).1 h
    exact ⟨k, e, h1, by omega, h3⟩
  · simp at h
theorem bor_mem {s : ByteArray} {x : Int} (h : x ∈ borW s) : 1 ≤ x ∧ x < s.size := by
  unfold borW at h
  split at h
  · obtain ⟨k, e, h1, h2, h3⟩ := (sel_mem _ _ _ _).1 h
    omega
  · simp at h
theorem pow_Per {s : ByteArray} {p : Nat} : powB s.data.toList 0 s.size p = true ↔ Per (fun i => s.data.toList[i]?) s.size p := by
  rw [powB_iff]
  unfold PowP Per
  constructor
  · rintro ⟨_, h⟩ j hj
    have := h j hj
    simp only [Nat.zero_add] at this
    exact this.symm
  · intro h
    refine ⟨by rw [← size_len]; omega, fun j hj => ?_⟩
    simp only [Nat.zero_add]
    exact (h j hj).symm
theorem perB_nat {s : ByteArray} {k : Nat} (h1 : 1 ≤ k) (h2 : k ≤ s.size) (h : powB s.data.toList 0 s.size k = true) : perB s (k : Int) = true := by
  unfold perB
  rw [Bool.and_eq_true]
  exact ⟨inB_iff.2 (by omega), by rw [Int.toNat_natCast]; exact h⟩
theorem apf_all {s : ByteArray} (hw : wordL s.data.toList = true) {x y : Int} (hx : x ∈ perW s) (hy : y ∈ perW s) : apfW s x y = true := by
  obtain ⟨p, rfl, p1, p2, p3⟩ := per_mem hx
  obtain ⟨q, rfl, q1, q2, q3⟩ := per_mem hy
  unfold apfW
  rw [hw, perB_nat p1 p2 p3, perB_nat q1 q2 q3, Int.toNat_natCast, Int.toNat_natCast]
  simp only [Bool.true_and, Bool.or_eq_true, decide_eq_true_eq]
  rcases Int.lt_or_le (s.size : Int) ((p : Int) + (q : Int) - ((Nat.gcd p q : Nat) : Int)) with h | h
  · exact .inl h
  · right
    have hg := fine_wilf (p + q) p q s.size (Nat.le_refl _) (by omega) (by omega) (pow_Per.1 p3) (pow_Per.1 q3) (by omega)
    have hgp : Nat.gcd p q ≤ p := Nat.gcd_le_left _ (by omega)
    have hg0 : 0 < Nat.gcd p q := Nat.gcd_pos_of_pos_left _ (by omega)
    exact perB_nat hg0 (by omega) (pow_Per.2 hg)
theorem sel_head (l : List UInt8) : ∀ f n, 1 ≤ (selL (powB l 0 l.length) f n).length → gAt (selL (powB l 0 l.length) f n) 0 = ((lpGo l f n : Nat) : Int)
  | 0, n, h => by simp [selL] at h
  | f + 1, n, h => by
    unfold selL at h ⊢
    unfold lpGo
    split
    · rfl
    · rename_i hp
      rw [if_neg hp] at h
      exact sel_head l f (n + 1) h
theorem lp_first {s : ByteArray} (hw : wordL s.data.toList = true) (h1 : 1 ≤ s.size) : lpW s = gAt (perW s) 0 := by
  have hl := per_len hw h1
  have ep : perW s = selL (powB s.data.toList 0 s.data.toList.length) s.data.toList.length 1 := by unfold perW; rw [if_pos hw, size_len]
  have := sel_head s.data.toList s.data.toList.length 1 (by rw [← ep]; omega)
  rw [ep, this]
  unfold lpW lpOf; rw [if_pos hw]
end Go.Proofs.Ytlmciomoimfajaa
