/- Plain lemmas: a word has a part that repeats (RepP), as hasPower finds it and as l07Repeats finds it. No program in sight. -/
import Derived.Test.YtlmciomoimfajaaDoorB4
namespace Go.Proofs.YtlmciomoimfajaaDoor
set_option linter.unusedVariables false

/-- a statement as a Bool -/
noncomputable def cB (p : Prop) : Bool := @decide p (Classical.propDecidable p)
theorem cB_true {p : Prop} (h : p) : cB p = true := by unfold cB; exact @decide_eq_true p (Classical.propDecidable p) h
theorem cB_false {p : Prop} (h : ¬ p) : cB p = false := by unfold cB; exact @decide_eq_false p (Classical.propDecidable p) h
theorem cB_iff {p : Prop} : cB p = true ↔ p := by unfold cB; exact @decide_eq_true_iff p (Classical.propDecidable p)
theorem cB_congr {p q : Prop} (h : p ↔ q) : cB p = cB q := by
  by_cases hp : p
  · rw [cB_true hp, cB_true (h.1 hp)]
  · rw [cB_false hp, cB_false (fun hq => hp (h.2 hq))]

/-- some 't' times a length 'p', and 'm' letters more, have the period 'p' -/
def RepP (l : List UInt8) (t m : Nat) : Prop := ∃ p i, 1 ≤ p ∧ PowP l i (t * p + m) p

def NoRep (l : List UInt8) (t m P : Nat) : Prop := ∀ p i, 1 ≤ p → p < P → ¬ PowP l i (t * p + m) p
def NoRepI (l : List UInt8) (t m P k : Nat) : Prop := ∀ i, i < k → ¬ PowP l i (t * P + m) P
theorem noRep_one (l : List UInt8) (t m : Nat) : NoRep l t m 1 := fun p i h1 h2 => by omega
theorem noRepI_zero (l : List UInt8) (t m P : Nat) : NoRepI l t m P 0 := fun i h => by omega
theorem noRepI_succ {l : List UInt8} {t m P k : Nat} (h : NoRepI l t m P k) (hk : ¬ PowP l k (t * P + m) P) : NoRepI l t m P (k + 1) := by
  intro i hi
  rcases Nat.lt_succ_iff_lt_or_eq.1 hi with hi | rfl
  · exact h i hi
  · exact hk
theorem noRep_next {l : List UInt8} {t m P : Nat} (h : NoRep l t m P) (hi : ∀ i, ¬ PowP l i (t * P + m) P) : NoRep l t m (P + 1) := by
  intro p i h1 h2
  rcases Nat.lt_succ_iff_lt_or_eq.1 h2 with h2 | rfl
  · exact h p i h1 h2
  · exact hi i
theorem noRepI_end {l : List UInt8} {t m P : Nat} (h : NoRepI l t m P l.length) (h1 : 1 ≤ t * P + m) : ∀ i, ¬ PowP l i (t * P + m) P := by
  intro i hp
  by_cases hi : i < l.length
  · exact h i hi hp
  · have := hp.1; omega
theorem noRep_end {l : List UInt8} {t m P : Nat} (h : NoRep l t m P) (hP : l.length < t * P + m) : ¬ RepP l t m := by
  rintro ⟨p, i, h1, hp⟩
  by_cases hpP : p < P
  · exact h p i h1 hpP hp
  · have h2 := hp.1
    have h3 : t * P ≤ t * p := Nat.mul_le_mul_left _ (by omega)
    omega

/-! the other way: runs of agreeing letters -/
def eqAt (l : List UInt8) (P i : Nat) : Prop := l[i]? = l[i + P]?
structure RunInv (l : List UInt8) (P L i r : Nat) : Prop where
  lt : r < L
  le : r ≤ i
  eqs : ∀ j, i - r ≤ j → j < i → eqAt l P j
  stop : r = i ∨ ¬ eqAt l P (i - r - 1)
  none : ∀ i0, i0 + L ≤ i → ∃ j, i0 ≤ j ∧ j < i0 + L ∧ ¬ eqAt l P j
theorem runInv_zero (l : List UInt8) (P L : Nat) (hL : 1 ≤ L) : RunInv l P L 0 0 :=
  ⟨hL, Nat.le_refl _, fun j _ h => by omega, .inl rfl, fun i0 h => by omega⟩
theorem runInv_eq {l : List UInt8} {P L i r : Nat} (h : RunInv l P L i r) (he : eqAt l P i) (hr : r + 1 ≠ L) : RunInv l P L (i + 1) (r + 1) := by
  have h1 := h.lt
  have h2 := h.le
  refine ⟨by omega, by omega, ?_, ?_, ?_⟩
  · intro j hj1 hj2
    by_cases hji : j = i
    · subst hji; exact he
    · exact h.eqs j (by omega) (by omega)
  · rcases h.stop with hs | hs
    · exact .inl (by omega)
    · refine .inr ?_
      rw [show i + 1 - (r + 1) - 1 = i - r - 1 by omega]; exact hs
  · intro i0 hi0
    by_cases hle : i0 + L ≤ i
    · exact h.none i0 hle
    · rcases h.stop with hs | hs
      · omega
      · exact ⟨i - r - 1, by omega, by omega, hs⟩
theorem runInv_ne {l : List UInt8} {P L i r : Nat} (h : RunInv l P L i r) (he : ¬ eqAt l P i) : RunInv l P L (i + 1) 0 := by
  have h1 := h.lt
  refine ⟨by omega, by omega, fun j a b => by omega, .inr (by simpa using he), ?_⟩
  intro i0 hi0
  by_cases hle : i0 + L ≤ i
  · exact h.none i0 hle
  · exact ⟨i, by omega, by omega, he⟩
theorem run_hit {l : List UInt8} {P L i r : Nat} (h : RunInv l P L i r) (he : eqAt l P i) (hr : r + 1 = L) (hi : i + P < l.length) : PowP l (i + 1 - L) (L + P) P := by
  have h2 := h.le
  refine ⟨by omega, fun j hj => ?_⟩
  show eqAt l P (i + 1 - L + j)
  by_cases hji : i + 1 - L + j = i
  · rw [hji]; exact he
  · exact h.eqs _ (by omega) (by omega)
theorem run_end {l : List UInt8} {P L i r : Nat} (h : RunInv l P L i r) (hi : l.length ≤ i + P) : ∀ i0, ¬ PowP l i0 (L + P) P := by
  intro i0 hp
  have h1 := hp.1
  obtain ⟨j, hj1, hj2, hj3⟩ := h.none i0 (by omega)
  refine hj3 ?_
  have := hp.2 (j - i0) (by omega)
  rwa [show i0 + (j - i0) = j by omega] at this
end Go.Proofs.YtlmciomoimfajaaDoor
