/- slices.Sort and slices.Compact at rows of strings that the call owns. Conditions: short rows. -/
import Derived.Test.YtlmciomoimfajaaDoorT0
import Derived.Test.YtlmciomoimfajaaDoorShelf
import Derived.Sort.OwnSorted
namespace Go.Proofs.YtlmciomoimfajaaDoor
open Go.RowKit Go.Sort
set_option linter.unusedVariables false

theorem sortS_c (v : Value) (l : List ByteArray) (B : Nat) (w : World) (h : OwnS w B v l) (hl : l.length ≤ 1073741824) :
    Calls Tryd.prog 24 #[v] w fun e w' => e = .returned (.tuple #[]) ∧ OwnS w' B v (sortS l) ∧ w.grownBy w' v.ownBlock := by
  rcases h.2 with ⟨rfl, h0⟩ | ⟨g, cap, cur, rfl, hbase, hb, h1, h2, h3, h4⟩
  · have : l = [] := List.eq_nil_of_length_eq_zero h0
    subst this
    refine (Tryd.slices_Sort_string_none none 0 w).mono ?_
    rintro e w' ⟨rfl, rfl⟩
    exact ⟨rfl, by rw [show sortS [] = [] by simp [sortS, sortL, bsL]]; exact h, World.grownBy.refl _ _⟩
  · rw [Nat.mul_one, sv_enc] at h4
    have hll := bsL_len l
    rw [← hll] at h1 h4 hl ⊢
    refine (Tryd.slices_Sort_string g 0 cap (bsL l) w (holds_of_block hb h4) (Array.getElem?_eq_some_iff.1 hb).1 (by omega)).mono ?_
    rintro e w' ⟨rfl, n, os, rfl⟩
    refine ⟨rfl, ?_, grownBy_sorted _⟩
    have := ownsRow_sorted (n := n) (os := os) (ts := sortL (bsL l)) (sortL_len (bsL l)) hbase hb h1 h2 h3
    unfold OwnS
    rw [sortS_len, ← hll]
    rw [enc_sv] at this
    exact this
theorem compactS_c (v : Value) (l : List ByteArray) (B : Nat) (w : World) (h : OwnS w B v l) (hl : l.length ≤ 1073741824) :
    Calls Tryd.prog 25 #[v] w fun e w' => ∃ v', e = .returned v' ∧ OwnS w' B v' (compS l) ∧ w.grownBy w' v.ownBlock ∧ v'.ownBlock = v.ownBlock := by
  rcases h.2 with ⟨rfl, h0⟩ | ⟨g, cap, cur, rfl, hbase, hb, h1, h2, h3, h4⟩
  · have : l = [] := List.eq_nil_of_length_eq_zero h0
    subst this
    refine (Tryd.slices_Compact_string_empty none 0 w).mono ?_
    rintro e w' ⟨rfl, rfl⟩
    exact ⟨_, rfl, h, World.grownBy.refl _ _, rfl⟩
  · rw [Nat.mul_one, sv_enc] at h4
    have hll := bsL_len l
    rw [← hll] at h1 h4 hl ⊢
    refine (Tryd.slices_Compact_string g 0 cap (bsL l) w (holds_of_block hb h4) (by omega) h1).mono ?_
    rintro e w' ⟨rfl, q, rfl⟩
    have hcl := compactL_len (bsL l)
    have hts : (Lib.compact (bsL l) ++ List.replicate ((bsL l).length - (Lib.compact (bsL l)).length) []).length = (bsL l).length := by simp; omega
    have ho := ownsRow_sorted (n := q) (os := #[]) (ts := Lib.compact (bsL l) ++ List.replicate ((bsL l).length - (Lib.compact (bsL l)).length) []) hts hbase hb h1 h2 h3
    have hg := grownBy_sorted (w := w) (g := g) (n := q) (os := #[]) (Lib.compact (bsL l) ++ List.replicate ((bsL l).length - (Lib.compact (bsL l)).length) ([] : List UInt8)).toArray
    rw [grow_empty] at ho hg
    refine ⟨_, rfl, ?_, hg, rfl⟩
    have hcs : (compS l).length = (Lib.compact (bsL l)).length := by unfold compS; rw [List.length_map]
    rcases ho.2 with ⟨h0, _⟩ | ⟨g', cap', cur', hv, hg', hb', hn', hm', hs', ht'⟩
    · cases h0
    · cases hv
      unfold OwnS
      rw [hcs]
      refine ⟨by rw [sv_len, Nat.mul_one, hcs], .inr ⟨g, cap, cur', rfl, hg', hb', Nat.le_trans hcl hn', hm', hs', ?_⟩⟩
      rw [Nat.mul_one] at ht' ⊢
      have e : cur'.toList.take (Lib.compact (bsL l)).length = (cur'.toList.take (bsL l).length).take (Lib.compact (bsL l)).length := by rw [List.take_take]; congr 1; omega
      rw [e, ht', List.map_append, List.take_append_of_le_length (by simp)]
      rw [enc_sv]
      exact List.take_of_length_le (by rw [sv_len, List.length_map]; exact Nat.le_refl _)
end Go.Proofs.YtlmciomoimfajaaDoor
