/- slices.Sort and slices.Compact at rows that the call owns, and plain lemmas: sorted rows without repeats are told by their members. Conditions: short rows. -/
import Derived.Test.YticbdpkmpnechaaM0
import Derived.Test.YticbdpkmpnechaaShelf
import Derived.Sort.OwnSortedInts
namespace Go.Proofs.Yticbdpkmpnechaa
open Go.RowKit Go.Sort
set_option linter.unusedVariables false

/-- strictly ascending -/
def Asc (l : List Int) : Prop := l.Pairwise (· < ·)
theorem asc_ext : ∀ {a b : List Int}, Asc a → Asc b → (∀ x, x ∈ a ↔ x ∈ b) → a = b
  | [], [], _, _, _ => rfl
  | [], y :: b, _, _, h => by have := (h y).2 (by simp); simp at this
  | x :: a, [], _, _, h => by have := (h x).1 (by simp); simp at this
  | x :: a, y :: b, ha, hb, h => by
    have ha' := List.pairwise_cons.1 ha
    have hb' := List.pairwise_cons.1 hb
    have hxy : x = y := by
      have h1 := (h x).1 (by simp)
      have h2 := (h y).2 (by simp)
      rcases List.mem_cons.1 h1 with h1 | h1
      · exact h1
      · rcases List.mem_cons.1 h2 with h2 | h2
        · exact h2.symm
        · have := hb'.1 x h1; have := ha'.1 y h2; omega
    subst hxy
    congr 1
    refine asc_ext ha'.2 hb'.2 fun z => ?_
    constructor
    · intro hz
      rcases List.mem_cons.1 ((h z).1 (by simp [hz])) with rfl | h1
      · have := ha'.1 z hz; omega
      · exact h1
    · intro hz
      rcases List.mem_cons.1 ((h z).2 (by simp [hz])) with rfl | h1
      · have := hb'.1 z hz; omega
      · exact h1
theorem get_bang (zs : List Int) (j : Nat) (hj : j < zs.length) : zs.toArray[j]! = zs[j] := by simp [hj]
theorem compact_asc {zs : List Int} (hs : zs.Pairwise (· ≤ ·)) : Asc (Lib.compact zs) ∧ ∀ x, x ∈ Lib.compact zs ↔ x ∈ zs := by
  have key : ∀ m, m ≤ zs.length → Asc (Lib.compactUpTo zs.toArray m) ∧ (∀ x, x ∈ Lib.compactUpTo zs.toArray m ↔ x ∈ zs.take m) := by
    intro m
    induction m with
    | zero => intro _; exact ⟨by simp [Lib.compactUpTo, Asc], fun x => by simp [Lib.compactUpTo]⟩
    | succ m ih =>
      intro hm
      obtain ⟨h1, h2⟩ := ih (by omega)
      have hget := get_bang zs m (by omega)
      rw [Lib.compactUpTo_succ]
      have htk : zs.take (m + 1) = zs.take m ++ [zs[m]] := List.take_succ_eq_append_getElem (by omega)
      by_cases hk : Lib.keeps zs.toArray m = true
      · rw [if_pos hk, hget]
        refine ⟨?_, fun x => by rw [htk, List.mem_append, List.mem_append, h2]⟩
        unfold Asc
        rw [List.pairwise_append]
        refine ⟨h1, by simp, fun x hx y hy => ?_⟩
        simp only [List.mem_singleton] at hy
        subst hy
        obtain ⟨i, hi, rfl⟩ := List.mem_take_iff_getElem.1 ((h2 x).1 hx)
        have him : i < m := by omega
        unfold Lib.keeps at hk
        simp only [decide_eq_true_eq] at hk
        rcases hk with hk | hk
        · omega
        · rw [hget, get_bang zs (m - 1) (by omega)] at hk
          have hp := List.pairwise_iff_getElem.1 hs
          have e1 := hp (m - 1) m (by omega) (by omega) (by omega)
          have e2 : zs[i] ≤ zs[m - 1] := by
            rcases Nat.lt_or_ge i (m - 1) with h | h
            · exact hp i (m - 1) (by omega) (by omega) h
            · have : i = m - 1 := by omega
              subst this; exact Int.le_refl _
          omega
      · rw [if_neg hk, List.append_nil]
        refine ⟨h1, fun x => ?_⟩
        rw [htk, List.mem_append, h2, List.mem_singleton]
        constructor
        · exact .inl
        · rintro (h | rfl)
          · exact h
          · unfold Lib.keeps at hk
            simp only [decide_eq_true_eq, not_or, Decidable.not_not] at hk
            rw [hget, get_bang zs (m - 1) (by omega)] at hk
            rw [hk.2]
            exact List.mem_take_iff_getElem.2 ⟨m - 1, by omega, rfl⟩
  obtain ⟨h1, h2⟩ := key zs.length (Nat.le_refl _)
  exact ⟨h1, fun x => by have := h2 x; rw [List.take_length] at this; exact this⟩
def sortI (zs : List Int) : List Int := zs.mergeSort fun x y => decide (x ≤ y)
theorem sortI_le (zs : List Int) : (sortI zs).Pairwise (· ≤ ·) := by
  have := List.pairwise_mergeSort (le := fun x y : Int => decide (x ≤ y)) (fun a b c h1 h2 => by simp at *; omega) (fun a b => by simp; omega) zs
  exact this.imp fun h => by simpa using h
theorem sortI_mem (zs : List Int) (x : Int) : x ∈ sortI zs ↔ x ∈ zs := List.mem_mergeSort
theorem sortI_len (zs : List Int) : (sortI zs).length = zs.length := List.length_mergeSort _
/-- what 'sort, then compact' leaves -/
def uniq (zs : List Int) : List Int := Lib.compact (sortI zs)
theorem uniq_asc (zs : List Int) : Asc (uniq zs) := (compact_asc (sortI_le zs)).1
theorem uniq_mem (zs : List Int) (x : Int) : x ∈ uniq zs ↔ x ∈ zs := ((compact_asc (sortI_le zs)).2 x).trans (sortI_mem zs x)
theorem uniq_is {zs l : List Int} (hl : Asc l) (h : ∀ x, x ∈ l ↔ x ∈ zs) : uniq zs = l := asc_ext (uniq_asc zs) hl fun x => (uniq_mem zs x).trans (h x).symm
theorem compact_len {α : Type} [Inhabited α] [DecidableEq α] (zs : List α) : (Lib.compact zs).length ≤ zs.length := by
  unfold Lib.compact Lib.compactUpTo
  rw [List.length_map]
  exact Nat.le_trans (List.length_filter_le _ _) (by simp)
theorem uniq_len (zs : List Int) : (uniq zs).length ≤ zs.length := by have := compact_len (sortI zs); rw [sortI_len] at this; exact this

theorem sortI_c (v : Value) (zs : List Int) (B : Nat) (w : World) (h : OwnI w B v zs) (hl : zs.length ≤ 1073741824) :
    Calls Try.prog 53 #[v] w fun e w' => e = .returned (.tuple #[]) ∧ OwnI w' B v (sortI zs) ∧ w.grownBy w' v.ownBlock := by
  rcases h.2 with ⟨rfl, h0⟩ | ⟨g, cap, cur, rfl, hbase, hb, h1, h2, h3, h4⟩
  · have : zs = [] := List.eq_nil_of_length_eq_zero h0
    subst this
    refine (Try.slices_Sort_int_none none 0 w).mono ?_
    rintro e w' ⟨rfl, rfl⟩
    exact ⟨rfl, by rw [show sortI [] = [] by simp [sortI]]; exact h, World.grownBy.refl _ _⟩
  · rw [Nat.mul_one] at h4
    refine (Try.slices_Sort_int g 0 cap zs w (holds_of_blockI hb h4) (Array.getElem?_eq_some_iff.1 hb).1 (by omega)).mono ?_
    rintro e w' ⟨rfl, n, os, rfl⟩
    refine ⟨rfl, ?_, grownBy_sortedI _⟩
    have := ownsRow_sortedI (n := n) (os := os) (ts := sortI zs) (sortI_len zs) hbase hb h1 h2 h3
    unfold OwnI
    rw [sortI_len]
    exact this
theorem compactI_c (v : Value) (zs : List Int) (B : Nat) (w : World) (h : OwnI w B v zs) (hl : zs.length ≤ 1073741824) :
    Calls Try.prog 54 #[v] w fun e w' => ∃ v', e = .returned v' ∧ OwnI w' B v' (Lib.compact zs) ∧ w.grownBy w' v.ownBlock ∧ v'.ownBlock = v.ownBlock := by
  rcases h.2 with ⟨rfl, h0⟩ | ⟨g, cap, cur, rfl, hbase, hb, h1, h2, h3, h4⟩
  · have : zs = [] := List.eq_nil_of_length_eq_zero h0
    subst this
    refine (Try.slices_Compact_int_empty none 0 w).mono ?_
    rintro e w' ⟨rfl, rfl⟩
    exact ⟨_, rfl, h, World.grownBy.refl _ _, rfl⟩
  · rw [Nat.mul_one] at h4
    refine (Try.slices_Compact_int g 0 cap zs w (holds_of_blockI hb h4) (by omega) h1).mono ?_
    rintro e w' ⟨rfl, q, rfl⟩
    have hcl := compact_len zs
    have hts : (Lib.compact zs ++ List.replicate (zs.length - (Lib.compact zs).length) 0).length = zs.length := by simp; omega
    have ho := ownsRow_sortedI (n := q) (os := #[]) (ts := Lib.compact zs ++ List.replicate (zs.length - (Lib.compact zs).length) 0) hts hbase hb h1 h2 h3
    have hg := grownBy_sortedI (w := w) (g := g) (n := q) (os := #[]) (Lib.compact zs ++ List.replicate (zs.length - (Lib.compact zs).length) (0 : Int)).toArray
    rw [grow_empty] at ho hg
    refine ⟨_, rfl, ?_, hg, rfl⟩
    rcases ho.2 with ⟨h0, _⟩ | ⟨g', cap', cur', hv, hg', hb', hn', hm', hs', ht'⟩
    · cases h0
    · cases hv
      refine ⟨by rw [iv_len, Nat.mul_one], .inr ⟨g, cap, cur', rfl, hg', hb', Nat.le_trans hcl hn', hm', hs', ?_⟩⟩
      rw [Nat.mul_one] at ht' ⊢
      have e : cur'.toList.take (Lib.compact zs).length = (cur'.toList.take zs.length).take (Lib.compact zs).length := by rw [List.take_take]; congr 1; omega
      rw [e, ht', List.map_append, List.take_append_of_le_length (by simp)]
      exact List.take_of_length_le (by simp)
end Go.Proofs.Yticbdpkmpnechaa
