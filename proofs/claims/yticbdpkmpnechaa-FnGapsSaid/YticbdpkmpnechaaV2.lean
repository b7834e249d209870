/- Plain lemmas for FnGaps: what the law asks of points, gaps, their lengths, the nearest points, return times and counts. No program in sight. -/
import Derived.Test.YticbdpkmpnechaaV1
import Derived.Test.YticbdpkmpnechaaV0
import Derived.Test.YticbdpkmpnechaaS8
import Derived.Test.YticbdpkmpnechaaS9
namespace Go.Proofs.Yticbdpkmpnechaa
set_option linter.unusedVariables false

/-- the points of a step p on a circle of length q -/
structure Pts (f : Nat → Nat) (q n : Nat) (X : List Int) : Prop where
  rot : Rot f q
  pos : 1 ≤ n
  asc : Asc X
  mem : ∀ x, x ∈ X ↔ ∃ k, k < n ∧ x = ((f k : Nat) : Int)
section
variable {f : Nat → Nat} {q n : Nat} {X : List Int}
theorem Pts.zero (P : Pts f q n X) : 1 ≤ X.length ∧ gAt X 0 = 0 := by
  have h0 : (0 : Int) ∈ X := (P.mem 0).2 ⟨0, P.pos, by rw [P.rot.zero]; rfl⟩
  obtain ⟨i, hi, e⟩ := mem_gAt h0
  obtain ⟨k, _, e2⟩ := (P.mem _).1 (gAt_mem (X := X) (i := 0) (by omega))
  refine ⟨by omega, ?_⟩
  rcases Nat.eq_zero_or_pos i with h | h
  · rw [← e, h]
  · have := asc_gAt P.asc 0 i h hi
    omega
theorem Pts.at (P : Pts f q n X) {i : Nat} (h : i < X.length) : ∃ k, k < n ∧ gAt X i = ((f k : Nat) : Int) := (P.mem _).1 (gAt_mem h)
/-- the i-th distance -/
def gE (X : List Int) (q : Int) (i : Nat) : Int := if i + 1 < X.length then gAt X (i + 1) - gAt X i else gAt X 0 + q - gAt X i
theorem gapTo_get (X : List Int) (q : Int) : ∀ k i, i < k → (gapTo X q k)[i]? = some (gE X q i)
  | 0, i, h => by omega
  | k + 1, i, h => by
    rw [gapTo]
    rcases Nat.lt_or_ge i k with h' | h'
    · rw [List.getElem?_append_left (by rw [gapTo_len]; exact h')]; exact gapTo_get X q k i h'
    · rw [List.getElem?_append_right (by rw [gapTo_len]; exact h'), gapTo_len, show i - k = 0 by omega, show i = k by omega]
      rfl
theorem sum_gaps (X : List Int) (q : Int) (h : 1 ≤ X.length) : sumL (gapTo X q X.length) = q := by
  have key : ∀ k, k < X.length → sumL (gapTo X q k) = gAt X k - gAt X 0 := by
    intro k
    induction k with
    | zero => intro _; simp [gapTo, sumL]
    | succ k ih =>
      intro hk
      rw [gapTo_in hk, sumL_snoc, ih (by omega)]; omega
  obtain ⟨m, hm⟩ : ∃ m, X.length = m + 1 := ⟨X.length - 1, by omega⟩
  rw [hm, gapTo_last (by omega), sumL_snoc, key m (by omega)]; omega
theorem Pts.gap (P : Pts f q n X) {i : Nat} (h : i < X.length) : ∃ k d, k < n ∧ gE X q i = ((d : Nat) : Int) ∧ IsGap f q n (f k) d := by
  obtain ⟨k, hk, e⟩ := P.at h
  obtain ⟨h1, h0⟩ := P.zero
  have lk := P.rot.lt k
  have inX : ∀ y : Nat, y < q → InS f q n y → ((y : Nat) : Int) ∈ X := by
    rintro y hy ⟨j, hj, he⟩
    have := P.rot.lt j
    exact (P.mem _).2 ⟨j, hj, by omega⟩
  unfold gE
  by_cases c : i + 1 < X.length
  · obtain ⟨k2, hk2, e2⟩ := P.at c
    have hlt := asc_gAt P.asc i (i + 1) (by omega) c
    have lk2 := P.rot.lt k2
    rw [if_pos c, e, e2]
    refine ⟨k, f k2 - f k, hk, by omega, by omega, ⟨k2, hk2, by omega⟩, fun e0 a b hin => ?_⟩
    have := inX (f k + e0) (by omega) hin
    obtain ⟨j, hj, ej⟩ := mem_gAt this
    rcases Nat.lt_or_ge i j with hij | hij
    · rcases Nat.eq_or_lt_of_le (show i + 1 ≤ j by omega) with h3 | h3
      · rw [← h3] at ej; omega
      · have := asc_gAt P.asc (i + 1) j h3 hj; omega
    · rcases Nat.eq_or_lt_of_le hij with h3 | h3
      · rw [h3] at ej; omega
      · have := asc_gAt P.asc j i h3 h; omega
  · rw [if_neg c, e, h0]
    refine ⟨k, q - f k, hk, by omega, by omega, ⟨0, P.pos, by have := P.rot.zero; omega⟩, fun e0 a b hin => ?_⟩
    have := inX (f k + e0) (by omega) hin
    obtain ⟨j, hj, ej⟩ := mem_gAt this
    rcases Nat.eq_or_lt_of_le (show j ≤ i by omega) with h3 | h3
    · rw [h3] at ej; omega
    · have := asc_gAt P.asc j i h3 h; omega
theorem Pts.lens (P : Pts f q n X) : 1 ≤ (uniq (gapTo X q X.length)).length ∧ (uniq (gapTo X q X.length)).length ≤ 3 ∧ ((uniq (gapTo X q X.length)).length = 3 → (uniq (gapTo X q X.length)).getD 2 0 = (uniq (gapTo X q X.length)).getD 0 0 + (uniq (gapTo X q X.length)).getD 1 0) := by
  obtain ⟨a, b, ha, hb, h3⟩ := three_gaps P.rot P.pos
  have hel : ∀ x ∈ uniq (gapTo X q X.length), x = (a : Int) ∨ x = (b : Int) ∨ x = (a : Int) + (b : Int) := by
    intro x hx
    rw [uniq_mem] at hx
    obtain ⟨i, hi, e⟩ := List.mem_iff_getElem.1 hx
    rw [gapTo_len] at hi
    have e1 := gapTo_get X q X.length i hi
    rw [List.getElem?_eq_getElem (by rw [gapTo_len]; exact hi), e] at e1
    obtain ⟨k, d, hk, e2, hg⟩ := P.gap hi
    have := h3 k d hk hg
    have e3 := Option.some.inj e1
    rw [e3, e2]; omega
  obtain ⟨l1, l2⟩ := asc_three (uniq_asc (gapTo X q X.length)) (by omega) (by omega) hel
  refine ⟨?_, l1, l2⟩
  have hx : gE X q 0 ∈ uniq (gapTo X q X.length) := (uniq_mem _ _).2 (List.mem_of_getElem? (gapTo_get X q X.length 0 (by have := P.zero.1; omega)))
  exact List.length_pos_of_mem hx
/-- as many points as steps: none comes twice -/
theorem uniq_inj {zs : List Int} (h : (uniq zs).length = zs.length) : ∀ i j (hi : i < j) (hj : j < zs.length), zs[i]'(by omega) ≠ zs[j] := by
  intro i j hi hj e
  have hz : uniq zs = uniq (zs.eraseIdx j) := by
    refine uniq_is (uniq_asc _) fun x => ?_
    rw [uniq_mem]
    constructor
    · intro hx; exact List.mem_of_mem_eraseIdx hx
    · intro hx
      obtain ⟨k, hk, e2⟩ := List.mem_iff_getElem.1 hx
      rw [List.mem_eraseIdx_iff_getElem]
      by_cases c : k = j
      · subst c; exact ⟨i, by omega, by omega, by rw [← e2]; exact e⟩
      · exact ⟨k, hk, c, e2⟩
  have h1 := uniq_len (zs.eraseIdx j)
  rw [List.length_eraseIdx_of_lt hj, ← hz, h] at h1
  omega
end
end Go.Proofs.Yticbdpkmpnechaa
