/- Plain lemmas for FnPeriods: the root of a word: repeated, it is the word; it is primitive. No program in sight. -/
import Derived.Test.YtlmciomoimfajaaQ1
import Derived.Test.YtlmciomoimfajaaQ2
import Derived.Test.YtlmciomoimfajaaB9
namespace Go.Proofs.Ytlmciomoimfajaa
set_option linter.unusedVariables false

/-- a number that divides the length and is a period -/
def IsRoot (l : List UInt8) (n : Nat) : Prop := l.length % n = 0 ∧ powB l 0 l.length n = true
theorem rootGo_spec (l : List UInt8) : ∀ f n, n + f = l.length → IsRoot l (rootGo l f n) ∧ n ≤ rootGo l f n ∧ rootGo l f n ≤ l.length ∧ ∀ m, n ≤ m → m < rootGo l f n → ¬ IsRoot l m
  | 0, n, h => by
    unfold rootGo
    exact ⟨root_full l, by omega, Nat.le_refl _, fun m a b => by omega⟩
  | f + 1, n, h => by
    unfold rootGo
    split
    · rename_i hr
      exact ⟨hr, Nat.le_refl _, by omega, fun m a b => by omega⟩
    · rename_i hr
      obtain ⟨h1, h2, h3, h4⟩ := rootGo_spec l f (n + 1) (by omega)
      refine ⟨h1, by omega, h3, fun m a b => ?_⟩
      rcases Nat.eq_or_lt_of_le a with rfl | a
      · exact hr
      · exact h4 m (by omega) b
theorem rootOf_spec {l : List UInt8} (h : 1 ≤ l.length) : IsRoot l (rootOf l) ∧ 1 ≤ rootOf l ∧ rootOf l ≤ l.length ∧ ∀ m, 1 ≤ m → m < rootOf l → ¬ IsRoot l m :=
  rootGo_spec l (l.length - 1) 1 (by omega)
theorem isRoot_Per {l : List UInt8} {n : Nat} : IsRoot l n ↔ n ∣ l.length ∧ Per (fun i => l[i]?) l.length n := by
  have e := pow_Per (s := St l) (p := n)
  rw [St_data, St_size] at e
  unfold IsRoot
  rw [e]
  constructor
  · rintro ⟨a, b⟩; exact ⟨Nat.dvd_of_mod_eq_zero a, b⟩
  · rintro ⟨a, b⟩; exact ⟨Nat.mod_eq_zero_of_dvd a, b⟩
/-- r repeated -/
def repL (r : List UInt8) : Nat → List UInt8
  | 0 => []
  | k + 1 => repL r k ++ r
theorem repL_len (r : List UInt8) : ∀ k, (repL r k).length = k * r.length
  | 0 => by simp [repL]
  | k + 1 => by rw [repL, List.length_append, repL_len r k, Nat.succ_mul]
theorem take_root {l : List UInt8} {d : Nat} (h : Per (fun i => l[i]?) l.length d) (hd : 0 < d) : ∀ k, k * d ≤ l.length → repL (l.take d) k = l.take (k * d)
  | 0, _ => by simp [repL]
  | k + 1, hk => by
    have e : (k + 1) * d = k * d + d := Nat.succ_mul k d
    rw [repL, take_root h hd k (by omega), e, List.take_add]
    congr 1
    apply List.ext_getElem?
    intro i
    rw [List.getElem?_take, List.getElem?_take, List.getElem?_drop]
    split
    · rename_i hi
      have h1 := per_mod h hd (k * d + i) (by omega)
      have h2 := per_mod h hd i (by omega)
      have e3 : (k * d + i) % d = i % d := by rw [Nat.add_comm, Nat.add_mul_mod_self_right]
      rw [e3] at h1
      rw [h1]; exact h2
    · rfl
theorem root_again {l : List UInt8} (h : 1 ≤ l.length) : repL (l.take (rootOf l)) (l.length / rootOf l) = l := by
  obtain ⟨h1, h2, h3, _⟩ := rootOf_spec h
  obtain ⟨hd, hp⟩ := isRoot_Per.1 h1
  rw [take_root hp (by omega) _ (by rw [Nat.div_mul_cancel hd]; exact Nat.le_refl _), Nat.div_mul_cancel hd, List.take_length]
theorem root_one {l : List UInt8} (h : 1 ≤ l.length) : l.length / rootOf l = 1 ↔ rootOf l = l.length := by
  obtain ⟨h1, h2, h3, _⟩ := rootOf_spec h
  obtain ⟨hd, _⟩ := isRoot_Per.1 h1
  constructor
  · intro e; have := Nat.div_mul_cancel hd; rw [e] at this; omega
  · intro e; rw [e]; exact Nat.div_self (by omega)
theorem root_prim {l : List UInt8} (h : 1 ≤ l.length) : (l.take (rootOf l)).length / rootOf (l.take (rootOf l)) = 1 := by
  obtain ⟨h1, h2, h3, h4⟩ := rootOf_spec h
  obtain ⟨hd, hp⟩ := isRoot_Per.1 h1
  have hl : (l.take (rootOf l)).length = rootOf l := by rw [List.length_take]; omega
  have h5 : 1 ≤ (l.take (rootOf l)).length := by omega
  rw [root_one h5]
  obtain ⟨g1, g2, g3, g4⟩ := rootOf_spec h5
  rcases Nat.eq_or_lt_of_le g3 with e | hlt
  · exact e
  · exfalso
    obtain ⟨kd, kp⟩ := isRoot_Per.1 g1
    rw [hl] at kd kp hlt
    refine h4 _ g2 hlt (isRoot_Per.2 ⟨Nat.dvd_trans kd hd, ?_⟩)
    refine per_extend hp (by omega) (m := rootOf l) (fun j hj => ?_) (by omega) kd (Nat.le_refl _)
    have := kp j hj
    simp only [List.getElem?_take] at this
    rw [if_pos (by omega), if_pos (by omega)] at this
    exact this
end Go.Proofs.Ytlmciomoimfajaa
