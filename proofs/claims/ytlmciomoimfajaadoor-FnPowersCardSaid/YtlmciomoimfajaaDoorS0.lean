/- Plain lemmas: sorted rows of numbers without repeats are told by their members. No program in sight. -/
import Derived.Test.YtlmciomoimfajaaDoorM0
import Derived.Lib.SlicesCompact
namespace Go.Proofs.YtlmciomoimfajaaDoor
open Go.RowKit
set_option linter.unusedVariables false

theorem own_base {w : World} {B B0 : Nat} {e : TypeId} {sz : Nat} {v : Value} {n : Nat} {xs : List Value} (h : w.ownsRow B e sz v n xs) (hB : B0 ≤ B) : w.ownsRow B0 e sz v n xs := by
  refine ⟨h.1, ?_⟩
  rcases h.2 with h | ⟨g, cap, cur, hv, hb, h⟩
  · exact .inl h
  · exact .inr ⟨g, cap, cur, hv, Nat.le_trans hB hb, h⟩

theorem own_shape {w : World} {B : Nat} {v : Value} {l : List Int} (h : OwnI w B v l) (h0 : l ≠ []) : ∃ g c, v = .slice (some ⟨g, 0, none⟩) l.length c := by
  rcases h.2 with ⟨_, h1⟩ | ⟨g, cap, cur, hv, _⟩
  · exact absurd (List.eq_nil_of_length_eq_zero h1) h0
  · exact ⟨g, cap, hv⟩
theorem un_hid {P : Prop} (h : Hid P) : P := h.out

/-- strictly ascending -/
def Asc (l : List Int) : Prop := l.Pairwise (· < ·)
theorem asc_ext : ∀ {a b : List Int}, Asc a → Asc b → (∀ x, x ∈ a ↔ x ∈ b) → a = b
  | [], [], _, _, _ => rfl
  | [], y :: b, _, _, h => by have := (h y).2 (by simp); simp at this
  | x :: a, [], _, _, h => by have := (h x).1 (by simp); simp at this
  | x :: a, y :: b, ha, hb, h => by
    have ha' := List.pairwise_cons.1 ha
    have hb' := List.pairwise_cons.1 hb
    have hxy : x = y := by
      have h1 := (h x).1 (by simp)
      have h2 := (h y).2 (by simp)
      rcases List.mem_cons.1 h1 with h1 | h1
      · exact h1
      · rcases List.mem_cons.1 h2 with h2 | h2
        · exact h2.symm
        · have := hb'.1 x h1; have := ha'.1 y h2; omega
    subst hxy
    congr 1
    refine asc_ext ha'.2 hb'.2 fun z => ?_
    constructor
    · intro hz
      rcases List.mem_cons.1 ((h z).1 (by simp [hz])) with rfl | h1
      · have := ha'.1 z hz; omega
      · exact h1
    · intro hz
      rcases List.mem_cons.1 ((h z).2 (by simp [hz])) with rfl | h1
      · have := hb'.1 z hz; omega
      · exact h1
theorem get_bang (zs : List Int) (j : Nat) (hj : j < zs.length) : zs.toArray[j]! = zs[j] := by simp [hj]
theorem compact_asc {zs : List Int} (hs : zs.Pairwise (· ≤ ·)) : Asc (Lib.compact zs) ∧ ∀ x, x ∈ Lib.compact zs ↔ x ∈ zs := by
  have key : ∀ m, m ≤ zs.length → Asc (Lib.compactUpTo zs.toArray m) ∧ (∀ x, x ∈ Lib.compactUpTo zs.toArray m ↔ x ∈ zs.take m) := by
    intro m
    induction m with
    | zero => intro _; exact ⟨by simp [Lib.compactUpTo, Asc], fun x => by simp [Lib.compactUpTo]⟩
    | succ m ih =>
      intro hm
      obtain ⟨h1, h2⟩ := ih (by omega)
      have hget := get_bang zs m (by omega)
      rw [Lib.compactUpTo_succ]
      have htk : zs.take (m + 1) = zs.take m ++ [zs[m]] := List.take_succ_eq_append_getElem (by omega)
      by_cases hk : Lib.keeps zs.toArray m = true
      · rw [if_pos hk, hget]
        refine ⟨?_, fun x => by rw [htk, List.mem_append, List.mem_append, h2]⟩
        unfold Asc
        rw [List.pairwise_append]
        refine ⟨h1, by simp, fun x hx y hy => ?_⟩
        simp only [List.mem_singleton] at hy
        subst hy
        obtain ⟨i, hi, rfl⟩ := List.mem_take_iff_getElem.1 ((h2 x).1 hx)
        have him : i < m := by omega
        unfold Lib.keeps at hk
        simp only [decide_eq_true_eq] at hk
        rcases hk with hk | hk
        · omega
        · rw [hget, get_bang zs (m - 1) (by omega)] at hk
          have hp := List.pairwise_iff_getElem.1 hs
          have e1 := hp (m - 1) m (by omega) (by omega) (by omega)
          have e2 : zs[i] ≤ zs[m - 1] := by
            rcases Nat.lt_or_ge i (m - 1) with h | h
            · exact hp i (m - 1) (by omega) (by omega) h
            · have : i = m - 1 := by omega
              subst this; exact Int.le_refl _
          omega
      · rw [if_neg hk, List.append_nil]
        refine ⟨h1, fun x => ?_⟩
        rw [htk, List.mem_append, h2, List.mem_singleton]
        constructor
        · exact .inl
        · rintro (h | rfl)
          · exact h
          · unfold Lib.keeps at hk
            simp only [decide_eq_true_eq, not_or, Decidable.not_not] at hk
            rw [hget, get_bang zs (m - 1) (by omega)] at hk
            rw [hk.2]
            exact List.mem_take_iff_getElem.2 ⟨m - 1, by omega, rfl⟩
  obtain ⟨h1, h2⟩ := key zs.length (Nat.le_refl _)
  exact ⟨h1, fun x => by have := h2 x; rw [List.take_length] at this; exact this⟩
def sortI (zs : List Int) : List Int := zs.mergeSort fun x y => decide (x ≤ y)
theorem sortI_le (zs : List Int) : (sortI zs).Pairwise (· ≤ ·) := by
  have := List.pairwise_mergeSort (le := fun x y : Int => decide (x ≤ y)) (fun a b c h1 h2 => by simp at *; omega) (fun a b => by simp; omega) zs
  exact this.imp fun h => by simpa using h
theorem sortI_mem (zs : List Int) (x : Int) : x ∈ sortI zs ↔ x ∈ zs := List.mem_mergeSort
theorem sortI_len (zs : List Int) : (sortI zs).length = zs.length := List.length_mergeSort _
/-- what 'sort, then compact' leaves -/
def uniq (zs : List Int) : List Int := Lib.compact (sortI zs)
theorem uniq_asc (zs : List Int) : Asc (uniq zs) := (compact_asc (sortI_le zs)).1
theorem uniq_mem (zs : List Int) (x : Int) : x ∈ uniq zs ↔ x ∈ zs := ((compact_asc (sortI_le zs)).2 x).trans (sortI_mem zs x)
theorem uniq_is {zs l : List Int} (hl : Asc l) (h : ∀ x, x ∈ l ↔ x ∈ zs) : uniq zs = l := asc_ext (uniq_asc zs) hl fun x => (uniq_mem zs x).trans (h x).symm
theorem compact_len {α : Type} [Inhabited α] [DecidableEq α] (zs : List α) : (Lib.compact zs).length ≤ zs.length := by
  unfold Lib.compact Lib.compactUpTo
  rw [List.length_map]
  exact Nat.le_trans (List.length_filter_le _ _) (by simp)
theorem uniq_len (zs : List Int) : (uniq zs).length ≤ zs.length := by have := compact_len (sortI zs); rw [sortI_len] at this; exact this

end Go.Proofs.YtlmciomoimfajaaDoor
