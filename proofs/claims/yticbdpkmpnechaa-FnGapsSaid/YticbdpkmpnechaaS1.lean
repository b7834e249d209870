/- slices.Sort and slices.Compact at rows of numbers that the call owns. Conditions: short rows. -/
import Derived.Test.YticbdpkmpnechaaS0
import Derived.Test.YticbdpkmpnechaaShelf
import Derived.Sort.OwnSortedInts
namespace Go.Proofs.Yticbdpkmpnechaa
open Go.RowKit Go.Sort
set_option linter.unusedVariables false

theorem sortI_c (v : Value) (zs : List Int) (B : Nat) (w : World) (h : OwnI w B v zs) (hl : zs.length ≤ 1073741824) :
    Calls Try.prog 53 #[v] w fun e w' => e = .returned (.tuple #[]) ∧ OwnI w' B v (sortI zs) ∧ w.grownBy w' v.ownBlock := by
  rcases h.2 with ⟨rfl, h0⟩ | ⟨g, cap, cur, rfl, hbase, hb, h1, h2, h3, h4⟩
  · have : zs = [] := List.eq_nil_of_length_eq_zero h0
    subst this
    refine (Try.slices_Sort_int_none none 0 w).mono ?_
    rintro e w' ⟨rfl, rfl⟩
    exact ⟨rfl, by rw [show sortI [] = [] by simp [sortI]]; exact h, World.grownBy.refl _ _⟩
  · rw [Nat.mul_one] at h4
    refine (Try.slices_Sort_int g 0 cap zs w (holds_of_blockI hb h4) (Array.getElem?_eq_some_iff.1 hb).1 (by omega)).mono ?_
    rintro e w' ⟨rfl, n, os, rfl⟩
    refine ⟨rfl, ?_, grownBy_sortedI _⟩
    have := ownsRow_sortedI (n := n) (os := os) (ts := sortI zs) (sortI_len zs) hbase hb h1 h2 h3
    unfold OwnI
    rw [sortI_len]
    exact this
theorem compactI_c (v : Value) (zs : List Int) (B : Nat) (w : World) (h : OwnI w B v zs) (hl : zs.length ≤ 1073741824) :
    Calls Try.prog 54 #[v] w fun e w' => ∃ v', e = .returned v' ∧ OwnI w' B v' (Lib.compact zs) ∧ w.grownBy w' v.ownBlock ∧ v'.ownBlock = v.ownBlock := by
  rcases h.2 with ⟨rfl, h0⟩ | ⟨g, cap, cur, rfl, hbase, hb, h1, h2, h3, h4⟩
  · have : zs = [] := List.eq_nil_of_length_eq_zero h0
    subst this
    refine (Try.slices_Compact_int_empty none 0 w).mono ?_
    rintro e w' ⟨rfl, rfl⟩
    exact ⟨_, rfl, h, World.grownBy.refl _ _, rfl⟩
  · rw [Nat.mul_one] at h4
    refine (Try.slices_Compact_int g 0 cap zs w (holds_of_blockI hb h4) (by omega) h1).mono ?_
    rintro e w' ⟨rfl, q, rfl⟩
    have hcl := compact_len zs
    have hts : (Lib.compact zs ++ List.replicate (zs.length - (Lib.compact zs).length) 0).length = zs.length := by simp; omega
    have ho := ownsRow_sortedI (n := q) (os := #[]) (ts := Lib.compact zs ++ List.replicate (zs.length - (Lib.compact zs).length) 0) hts hbase hb h1 h2 h3
    have hg := grownBy_sortedI (w := w) (g := g) (n := q) (os := #[]) (Lib.compact zs ++ List.replicate (zs.length - (Lib.compact zs).length) (0 : Int)).toArray
    rw [grow_empty] at ho hg
    refine ⟨_, rfl, ?_, hg, rfl⟩
    rcases ho.2 with ⟨h0, _⟩ | ⟨g', cap', cur', hv, hg', hb', hn', hm', hs', ht'⟩
    · cases h0
    · cases hv
      refine ⟨by rw [iv_len, Nat.mul_one], .inr ⟨g, cap, cur', rfl, hg', hb', Nat.le_trans hcl hn', hm', hs', ?_⟩⟩
      rw [Nat.mul_one] at ht' ⊢
      have e : cur'.toList.take (Lib.compact zs).length = (cur'.toList.take zs.length).take (Lib.compact zs).length := by rw [List.take_take]; congr 1; omega
      rw [e, ht', List.map_append, List.take_append_of_le_length (by simp)]
      exact List.take_of_length_le (by simp)
end Go.Proofs.Yticbdpkmpnechaa
