/- The walk of the law FnPeriods: it returns true. Conditions: the code's bytes can be read; the library's variable MaxLen holds a number. -/
import Derived.Test.YtlmciomoimfajaaV8
import Derived.Test.YtlmciomoimfajaaV4
import Derived.Test.YtlmciomoimfajaaE2
import Derived.Test.YtlmciomoimfajaaF3
import Derived.Test.YtlmciomoimfajaaQ2
import Derived.Test.YtlmciomoimfajaaQ3
import Derived.Test.YtlmciomoimfajaaQ4
import Derived.Test.YtlmciomoimfajaaQ5
import Derived.Test.YtlmciomoimfajaaQ7
import Derived.Test.YtlmciomoimfajaaL7
import Derived.Deep.Cut
import Derived.Deep.CutRange
namespace Go.Proofs.Ytlmciomoimfajaa
open Go.RowKit
set_option linter.unusedVariables false

theorem rdS_shape {w : World} {v : Value} {L : List ByteArray} (hrd : RdS w v L) : ∃ ga cc, v = .slice ga L.length cc := by
  rcases hrd with ⟨rfl, h0⟩ | ⟨g, cap, rfl, hcap, hc⟩
  · exact ⟨none, 0, by rw [h0]; rfl⟩
  · exact ⟨_, _, rfl⟩
theorem rdS_at {w : World} {ga : Option Addr} {n cc : Nat} {L : List ByteArray} (hrd : RdS w (.slice ga n cc) L) {k : Nat} {x : ByteArray} (hx : L[k]? = some x) : ∃ g, ga = some ⟨g, 0, none⟩ ∧ n ≤ cc ∧ ∀ j y, L[j]? = some y → w.cell? ⟨g, j, none⟩ = some (.string y) := by
  rcases hrd with ⟨_, h0⟩ | ⟨g, cap, h, hcap, hc⟩
  · rw [h0] at hx; simp at hx
  · cases h; exact ⟨g, rfl, hcap, hc⟩
theorem rdI_at {w : World} {ga : Option Addr} {n cc : Nat} {L : List Int} (hrd : RdI w (.slice ga n cc) L) {k : Nat} (hk : k < L.length) : ∃ g, ga = some ⟨g, 0, none⟩ ∧ n ≤ cc ∧ ∀ j, j < L.length → w.cell? ⟨g, j, none⟩ = some (.int .i64 (gAt L j)) := by
  rcases hrd with ⟨_, h0⟩ | ⟨g, cap, h, hcap, hc⟩
  · rw [h0] at hk; simp at hk
  · cases h; exact ⟨g, rfl, hcap, fun j hj => hc j _ (gAt_get hj)⟩
theorem root_nat (s : ByteArray) (hw : wordL s.data.toList = true) : ∃ K : Nat, rootN s = (K : Int) ∧ K ≤ s.size ∧ repL (rootS s).data.toList K = s.data.toList ∧ (1 ≤ s.size → 1 ≤ K ∧ rootN (rootS s) = 1) ∧ wordL (rootS s).data.toList = true ∧ (s.size = 0 → K = 0) ∧ ∀ i, i ≤ K → (repL (rootS s).data.toList i).length ≤ s.size := by
  have hl := size_len s
  rcases Nat.eq_zero_or_pos s.size with h0 | h1
  · have hok : rootOk s = false := by unfold rootOk; rw [(isEmpty_iff s).2 h0]; simp
    have e1 : rootN s = 0 := by unfold rootN; rw [hok]; rfl
    have e2 : rootS s = St [] := by unfold rootS; rw [hok]; rfl
    have e3 : s.data.toList = [] := List.eq_nil_of_length_eq_zero (by omega)
    refine ⟨0, by rw [e1]; rfl, by omega, by rw [e3]; rfl, fun h => by omega, by rw [e2]; decide, fun _ => rfl, fun i hi => ?_⟩
    obtain rfl : i = 0 := by omega
    simp [repL]
  · have hok : rootOk s = true := by unfold rootOk; rw [hw, isEmpty_no h1]; rfl
    have e1 : rootN s = ((s.size / rootOf s.data.toList : Nat) : Int) := by unfold rootN; rw [hok]; rfl
    have e2 : rootS s = St (s.data.toList.take (rootOf s.data.toList)) := by unfold rootS; rw [hok]; rfl
    obtain ⟨r1, r2, r3, r4⟩ := rootOf_spec (l := s.data.toList) (by omega)
    obtain ⟨hd, hp⟩ := isRoot_Per.1 r1
    have hz : (rootS s).size = rootOf s.data.toList := by rw [e2, St_size, List.length_take]; omega
    have hag := root_again (l := s.data.toList) (by omega)
    rw [← hl] at hag hd
    have hw2 : wordL (rootS s).data.toList = true := by
      rw [e2, St_data]
      exact wordL_mk (fun c hc => wordL_all hw c (List.mem_of_mem_take hc)) (by have := wordL_len hw; rw [List.length_take]; omega)
    refine ⟨s.size / rootOf s.data.toList, e1, Nat.div_le_self _ _, by rw [e2, St_data]; exact hag, fun _ => ⟨?_, ?_⟩, hw2, fun h => by omega, fun i hi => ?_⟩
    · exact (Nat.one_le_div_iff (by omega)).2 (by omega)
    · have hpr := root_prim (l := s.data.toList) (by omega)
      have hok2 : rootOk (rootS s) = true := by unfold rootOk; rw [hw2, isEmpty_no (by omega)]; rfl
      unfold rootN
      rw [hok2, if_pos rfl]
      rw [← St_data (s.data.toList.take (rootOf s.data.toList)), ← e2, ← size_len] at hpr
      rw [hpr]; rfl
    · rw [repL_len, ← size_len, hz]
      have h2 := Nat.div_mul_cancel hd
      calc i * rootOf s.data.toList ≤ (s.size / rootOf s.data.toList) * rootOf s.data.toList := Nat.mul_le_mul_right _ hi
        _ = s.size := h2
        _ ≤ s.size := Nat.le_refl _
theorem cat_le {s : ByteArray} (hw : wordL s.data.toList = true) (t : Nat) : (catS ((partsW s).take t)).length ≤ s.size := by
  have h := congrArg List.length (parts_cat hw)
  rw [← size_len] at h
  have e : catS (partsW s) = catS ((partsW s).take t) ++ catS ((partsW s).drop t) := by
    unfold catS; rw [← List.flatMap_append, List.take_append_drop]
  rw [e, List.length_append] at h
  omega
theorem cat_step {L : List ByteArray} {t : Nat} {x : ByteArray} (h : L[t]? = some x) : St (catS (L.take t)) ++ x = St (catS (L.take (t + 1))) := by
  have hm := (List.getElem?_eq_some_iff.1 h).1
  apply str_inj
  rw [ByteArray.data_append, Array.toList_append, St_data, St_data, List.take_succ_eq_append_getElem hm, (List.getElem?_eq_some_iff.1 h).2, catS_snoc]
theorem rep_step (r : ByteArray) (i : Nat) : St (repL r.data.toList i) ++ r = St (repL r.data.toList (i + 1)) := by
  apply str_inj
  rw [ByteArray.data_append, Array.toList_append]; rfl
end Go.Proofs.Ytlmciomoimfajaa
