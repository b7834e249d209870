/- Contract of slices.BinarySearch at []string: of an ascending row it returns how many elements are less than the target, and whether the target is among them. Conditions: a row that can be read, of at most 2^20 elements. -/
import Derived.Test.YtlmciomoimfajaaDoorT0
import Derived.Deep.LoopGhost
import Derived.Deep.QuietTactic
import Derived.Shelf.RegionOpenPlain
namespace Go.Proofs.YtlmciomoimfajaaDoor
open Go.RowKit
set_option linter.unusedVariables false

def ltT (y x : ByteArray) : Bool := decide (y.data.toList < x.data.toList)
def memB (l : List ByteArray) (x : ByteArray) : Bool := decide (x.data.toList ∈ bsL l)
theorem memB_iff {l : List ByteArray} {x : ByteArray} : memB l x = true ↔ x ∈ l := by unfold memB; rw [decide_eq_true_eq, mem_bsL]
def srIx (l : List ByteArray) (x : ByteArray) : Nat := l.countP fun y => ltT y x
theorem countP_splitS (p : ByteArray → Bool) : ∀ (l : List ByteArray) (i : Nat), i ≤ l.length → (∀ j, j < i → p (gS l j) = true) → (∀ j, i ≤ j → j < l.length → p (gS l j) = false) → l.countP p = i
  | [], i, hi, _, _ => by
    have : i = 0 := by simpa using hi
    simp [this]
  | a :: r, 0, _, _, h2 => by
    have ha : p a = false := h2 0 (Nat.le_refl _) (by simp)
    have := countP_splitS p r 0 (Nat.zero_le _) (fun j hj => absurd hj (Nat.not_lt_zero _)) (fun j _ hj => h2 (j + 1) (Nat.zero_le _) (by simpa using hj))
    simp [ha, this]
  | a :: r, i + 1, hi, h1, h2 => by
    have ha : p a = true := h1 0 (Nat.succ_pos _)
    have := countP_splitS p r i (by simpa using hi) (fun j hj => h1 (j + 1) (by omega)) (fun j hij hj => h2 (j + 1) (by omega) (by simpa using hj))
    simp [ha, this]
theorem asc_at {l : List ByteArray} (h : AscS l) : ∀ a b, a < b → b < l.length → (gS l a).data.toList < (gS l b).data.toList := by
  intro a b hab hb
  have := List.pairwise_iff_getElem.1 h a b (by rw [bsL_len]; omega) (by rw [bsL_len]; exact hb) hab
  rw [bsL_get l a (by omega), bsL_get l b hb] at this
  rw [gS_eq (by omega), gS_eq hb]; exact this
theorem search_endS {l : List ByteArray} {x : ByteArray} {i : Nat} (hs : AscS l) (hi : i ≤ l.length) (h1 : ∀ j, j < i → ltT (gS l j) x = true) (h2 : ∀ j, i ≤ j → j < l.length → ltT (gS l j) x = false) :
    srIx l x = i ∧ memB l x = decide (i < l.length ∧ gS l i = x) := by
  refine ⟨countP_splitS _ _ _ hi h1 h2, ?_⟩
  unfold memB
  rw [decide_eq_decide, mem_bsL]
  constructor
  · intro hm
    obtain ⟨j, hj, e⟩ := List.mem_iff_getElem.1 hm
    rw [← gS_eq hj] at e
    have hij : i ≤ j := by
      rcases Nat.lt_or_ge j i with h | h
      · have := h1 j h; rw [e] at this; unfold ltT at this; exact absurd (of_decide_eq_true this) (ll_irr _)
      · exact h
    refine ⟨by omega, ?_⟩
    rcases Nat.lt_or_ge i j with h | h
    · have a1 := asc_at hs i j h hj
      have a2 := h2 i (Nat.le_refl _) (by omega)
      rw [e] at a1
      unfold ltT at a2
      exact absurd a1 (of_decide_eq_false a2)
    · rw [show i = j by omega]; exact e
  · rintro ⟨h, e⟩
    rw [← e, gS_eq h]; exact List.getElem_mem _
theorem srIx_at {l : List ByteArray} {x : ByteArray} (hs : AscS l) (h : x ∈ l) : l[srIx l x]? = some x := by
  obtain ⟨j, hj, e⟩ := List.mem_iff_getElem.1 h
  rw [← gS_eq hj] at e
  have := (search_endS (i := j) (x := x) hs (by omega) (fun k hk => by rw [← e]; exact decide_eq_true (asc_at hs k j hk hj)) (fun k hk hkl => by
    rw [← e]; refine decide_eq_false fun hlt => ?_
    rcases Nat.lt_or_ge j k with h' | h'
    · exact ll_irr _ (ll_tr hlt (asc_at hs j k h' hkl))
    · rw [show k = j by omega] at hlt; exact ll_irr _ hlt)).1
  rw [this, gS_get hj, e]

end Go.Proofs.YtlmciomoimfajaaDoor
