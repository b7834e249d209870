/- Plain lemmas: the numbers that a test keeps: which they are, that they ascend, one more at the end. No program in sight. -/
import Derived.Test.YtlmciomoimfajaaS0
import Derived.Test.YtlmciomoimfajaaD1
namespace Go.Proofs.Ytlmciomoimfajaa
set_option linter.unusedVariables false

theorem sel_mem (P : Nat → Bool) : ∀ f n (x : Int), x ∈ selL P f n ↔ ∃ k : Nat, x = (k : Int) ∧ n ≤ k ∧ k < n + f ∧ P k = true
  | 0, n, x => by
    constructor
    · intro h; simp [selL] at h
    · rintro ⟨k, _, h1, h2, _⟩; omega
  | f + 1, n, x => by
    have ih := sel_mem P f (n + 1) x
    unfold selL
    split
    · rename_i hp
      rw [List.mem_cons, ih]
      constructor
      · rintro (rfl | ⟨k, e, h1, h2, h3⟩)
        · exact ⟨n, rfl, by omega, by omega, hp⟩
        · exact ⟨k, e, by omega, by omega, h3⟩
      · rintro ⟨k, e, h1, h2, h3⟩
        rcases Nat.eq_or_lt_of_le h1 with rfl | h1
        · exact .inl e
        · exact .inr ⟨k, e, by omega, by omega, h3⟩
    · rename_i hp
      rw [ih]
      constructor
      · rintro ⟨k, e, h1, h2, h3⟩; exact ⟨k, e, by omega, by omega, h3⟩
      · rintro ⟨k, e, h1, h2, h3⟩
        rcases Nat.eq_or_lt_of_le h1 with rfl | h1
        · exact absurd h3 hp
        · exact ⟨k, e, by omega, by omega, h3⟩
theorem sel_asc (P : Nat → Bool) : ∀ f n, Asc (selL P f n)
  | 0, n => by simp [selL, Asc]
  | f + 1, n => by
    have ih := sel_asc P f (n + 1)
    unfold selL
    split
    · refine List.pairwise_cons.2 ⟨fun x hx => ?_, ih⟩
      obtain ⟨k, rfl, h1, _, _⟩ := (sel_mem P f (n + 1) x).1 hx
      omega
    · exact ih
theorem sel_snoc (P : Nat → Bool) : ∀ f n, selL P (f + 1) n = selL P f n ++ (if P (n + f) = true then [((n + f : Nat) : Int)] else [])
  | 0, n => by
    simp only [selL, List.nil_append, Nat.add_zero]
  | f + 1, n => by
    have ih := sel_snoc P f (n + 1)
    rw [selL]
    conv => rhs; rw [selL]
    rw [ih, show n + 1 + f = n + (f + 1) by omega]
    split <;> simp
theorem selLen_yes {P : Nat → Bool} {k : Nat} (h : P k = true) : (selL P (k + 1) 0).length = (selL P k 0).length + 1 := by
  rw [sel_snoc, Nat.zero_add, if_pos h]; simp
theorem selLen_no {P : Nat → Bool} {k : Nat} (h : P k = false) : (selL P (k + 1) 0).length = (selL P k 0).length := by
  rw [sel_snoc, Nat.zero_add, if_neg (by rw [h]; decide)]; simp
end Go.Proofs.Ytlmciomoimfajaa
