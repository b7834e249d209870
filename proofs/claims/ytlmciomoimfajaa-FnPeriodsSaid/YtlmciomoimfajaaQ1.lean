/- Plain lemmas: periods of a finite sequence: two periods that overlap enough have their greatest common divisor for a period. No program in sight. -/
import Derived.Test.YtlmciomoimfajaaM0
namespace Go.Proofs.Ytlmciomoimfajaa
set_option linter.unusedVariables false

section
variable {α : Type} {f : Nat → α}
def Per (f : Nat → α) (n p : Nat) : Prop := ∀ j, j + p < n → f (j + p) = f j
theorem per_mod {n p : Nat} (h : Per f n p) (hp : 0 < p) : ∀ i, i < n → f i = f (i % p) := by
  intro i
  induction i using Nat.strongRecOn with
  | ind i ih =>
    intro hi
    rcases Nat.lt_or_ge i p with hlt | hge
    · rw [Nat.mod_eq_of_lt hlt]
    · have h1 := h (i - p) (by omega)
      rw [show i - p + p = i by omega] at h1
      rw [h1, ih (i - p) (by omega) (by omega), Nat.mod_eq_sub_mod hge]
theorem mod_per {n p : Nat} (h : ∀ i, i < n → f i = f (i % p)) : Per f n p := fun j hj => by
  rw [h (j + p) hj, h j (by omega), Nat.add_mod_right]
theorem per_le {n m p : Nat} (h : Per f n p) (hm : m ≤ n) : Per f m p := fun j hj => h j (by omega)
theorem per_dvd {n p q : Nat} (h : Per f n p) (hp : 0 < p) (hd : p ∣ q) : Per f n q := fun j hj => by
  obtain ⟨c, rfl⟩ := hd
  have e : (j + p * c) % p = j % p := Nat.add_mul_mod_self_left j p c
  rw [per_mod h hp (j + p * c) hj, per_mod h hp j (by omega), e]
/-- a period g of a beginning at least as long as a period q that g divides -/
theorem per_extend {n m q g : Nat} (hq : Per f n q) (h0 : 0 < q) (hg : Per f m g) (hg0 : 0 < g) (hd : g ∣ q) (hm : q ≤ m) : Per f n g := by
  refine mod_per fun i hi => ?_
  have hlt := Nat.mod_lt i h0
  have e1 := per_mod hq h0 i hi
  have e2 := per_mod hg hg0 (i % q) (by omega)
  rw [Nat.mod_mod_of_dvd i hd] at e2
  rw [e1, e2]
theorem gcd_minus (p d : Nat) : Nat.gcd p (p + d) = Nat.gcd p d := by simp
theorem fw_step {N : Nat} (ih : ∀ p q n : Nat, p + q ≤ N → 0 < p → 0 < q → Per f n p → Per f n q → p + q ≤ n + Nat.gcd p q → Per f n (Nat.gcd p q)) {p q n : Nat} (hN : p + q ≤ N + 1) (hp : 0 < p) (hlt : p < q) (h1 : Per f n p) (h2 : Per f n q) (hn : p + q ≤ n + Nat.gcd p q) : Per f n (Nat.gcd p q) := by
  obtain ⟨d, rfl⟩ : ∃ d, q = p + d := ⟨q - p, by omega⟩
  have e := gcd_minus p d
  rw [e] at hn ⊢
  have hgd : Nat.gcd p d ≤ d := Nat.gcd_le_right _ (by omega)
  have hgp : Nat.gcd p d ≤ p := Nat.gcd_le_left _ hp
  have hg0 : 0 < Nat.gcd p d := Nat.gcd_pos_of_pos_left _ hp
  have h := ih p d (n - p) (by omega) hp (by omega) (per_le h1 (by omega)) (fun j hj => by
    have a := h1 (j + d) (by omega)
    have b := h2 j (by omega)
    rw [show j + d + p = j + (p + d) by omega] at a
    rw [← a, b]) (by omega)
  exact per_extend h1 hp h hg0 (Nat.gcd_dvd_left _ _) (by omega)
theorem fine_wilf : ∀ (N p q n : Nat), p + q ≤ N → 0 < p → 0 < q → Per f n p → Per f n q → p + q ≤ n + Nat.gcd p q → Per f n (Nat.gcd p q)
  | 0, p, q, n, h, h1, h2, _, _, _ => by omega
  | N + 1, p, q, n, hN, hp, hq, h1, h2, hn => by
    rcases Nat.lt_trichotomy p q with hlt | heq | hgt
    · exact fw_step (fine_wilf N) hN hp hlt h1 h2 hn
    · subst heq; rw [Nat.gcd_self]; exact h1
    · rw [Nat.gcd_comm] at hn ⊢
      exact fw_step (fine_wilf N) (by omega) hq hgt h2 h1 (by omega)
end
end Go.Proofs.Ytlmciomoimfajaa
