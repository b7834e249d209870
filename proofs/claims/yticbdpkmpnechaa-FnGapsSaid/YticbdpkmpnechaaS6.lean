/- Contract of the reference's l11Insert: a number put into an ascending row. Conditions: short rows that lie in memory. -/
import Derived.Test.YticbdpkmpnechaaS0
import Derived.Test.YticbdpkmpnechaaM1
namespace Go.Proofs.Yticbdpkmpnechaa
open Go.RowKit
set_option linter.unusedVariables false

def gA (l : List Int) (i : Nat) : Int := l.getD i 0
theorem gA_get {l : List Int} {i : Nat} (h : i < l.length) : l[i]? = some (gA l i) := by
  unfold gA; rw [List.getD_eq_getElem?_getD, List.getElem?_eq_getElem h]; rfl
theorem gA_eq {l : List Int} {i : Nat} (h : i < l.length) : gA l i = l[i] := by
  have := gA_get h; rw [List.getElem?_eq_getElem h] at this; exact (Option.some.inj this).symm
def posK (l : List Int) (x : Int) : Nat → Nat
  | 0 => 0
  | k + 1 => if x < gA l k then posK l x k else k + 1
theorem posK_le (l : List Int) (x : Int) : ∀ k, posK l x k ≤ k
  | 0 => Nat.le_refl _
  | k + 1 => by have := posK_le l x k; unfold posK; split <;> omega
theorem posK_above (l : List Int) (x : Int) : ∀ k i, posK l x k ≤ i → i < k → x < gA l i
  | 0, i, _, h => by omega
  | k + 1, i, h1, h2 => by
    unfold posK at h1
    split at h1
    · rename_i hx
      rcases Nat.lt_or_ge i k with h | h
      · exact posK_above l x k i h1 h
      · rw [show i = k by omega]; exact hx
    · omega
theorem posK_stop (l : List Int) (x : Int) : ∀ k, 0 < posK l x k → gA l (posK l x k - 1) ≤ x
  | 0, h => by simp [posK] at h
  | k + 1, h => by
    unfold posK at h ⊢
    split
    · rename_i hx; rw [if_pos hx] at h; exact posK_stop l x k h
    · rename_i hx; rw [Nat.add_sub_cancel]; omega
def posI (l : List Int) (x : Int) : Nat := posK l x l.length
def insI (l : List Int) (x : Int) : List Int := if 0 < posI l x ∧ gA l (posI l x - 1) = x then l else l.take (posI l x) ++ [x] ++ l.drop (posI l x)
theorem insI_len (l : List Int) (x : Int) : (insI l x).length ≤ l.length + 1 := by
  unfold insI; split
  · omega
  · simp; omega
theorem ins_asc {l : List Int} {x : Int} (h : Asc l) : Asc (insI l x) ∧ ∀ y, y ∈ insI l x ↔ y ∈ l ∨ y = x := by
  have hk : posI l x ≤ l.length := posK_le _ _ _
  have hab := posK_above l x l.length
  have hst := posK_stop l x l.length
  have hp := List.pairwise_iff_getElem.1 h
  unfold insI
  split
  · rename_i hc
    refine ⟨h, fun y => ⟨.inl, ?_⟩⟩
    rintro (hy | rfl)
    · exact hy
    · rw [← hc.2, gA_eq (by omega)]; exact List.getElem_mem _
  · rename_i hc
    obtain ⟨k, hkk⟩ : ∃ k, k = posI l x := ⟨_, rfl⟩
    change ∀ i, posI l x ≤ i → i < l.length → x < gA l i at hab
    change 0 < posI l x → gA l (posI l x - 1) ≤ x at hst
    rw [← hkk] at hk hab hst hc ⊢
    have hlow : ∀ i (hi : i < l.length), i < k → l[i] < x := by
      intro i hi hik
      have h1 := hst (by omega)
      have h2 : gA l (k - 1) ≠ x := fun e => hc ⟨by omega, e⟩
      rw [gA_eq (by omega)] at h1 h2
      rcases Nat.lt_or_ge i (k - 1) with hlt | hge
      · have := hp i (k - 1) hi (by omega) hlt; omega
      · have : i = k - 1 := by omega
        subst this; omega
    have hhigh : ∀ i (hi : i < l.length), k ≤ i → x < l[i] := by
      intro i hi hik
      have := hab i hik hi
      rwa [gA_eq hi] at this
    constructor
    · unfold Asc
      rw [List.pairwise_append, List.pairwise_append]
      refine ⟨⟨h.sublist (List.take_sublist _ _), by simp, fun a ha b hb => ?_⟩, h.sublist (List.drop_sublist _ _), fun a ha b hb => ?_⟩
      · simp at hb; subst hb
        obtain ⟨i, hi, rfl⟩ := List.mem_take_iff_getElem.1 ha
        exact hlow i (by omega) (by omega)
      · obtain ⟨j, hj, rfl⟩ := List.mem_drop_iff_getElem.1 hb
        rcases List.mem_append.1 ha with ha | ha
        · obtain ⟨i, hi, rfl⟩ := List.mem_take_iff_getElem.1 ha
          exact hp i (k + j) (by omega) (by omega) (by omega)
        · simp at ha; subst ha
          exact hhigh (k + j) (by omega) (by omega)
    · intro y
      simp only [List.mem_append, List.mem_singleton]
      have e : y ∈ l ↔ y ∈ l.take k ∨ y ∈ l.drop k := by rw [← List.mem_append, List.take_append_drop]
      rw [e]
      constructor
      · rintro ((h | h) | h)
        · exact .inl (.inl h)
        · exact .inr h
        · exact .inl (.inr h)
      · rintro ((h | h) | h)
        · exact .inl (.inl h)
        · exact .inr h
        · exact .inl (.inr h)
/-- the numbers of a row, put in one by one -/
def insAllI : List Int → List Int → List Int
  | l, [] => l
  | l, x :: r => insAllI (insI l x) r
theorem insAllI_asc : ∀ {l : List Int} (r : List Int), Asc l → Asc (insAllI l r) ∧ ∀ y, y ∈ insAllI l r ↔ y ∈ l ∨ y ∈ r
  | l, [], h => ⟨h, fun y => by simp [insAllI]⟩
  | l, x :: r, h => by
    obtain ⟨h1, h2⟩ := ins_asc (x := x) h
    obtain ⟨h3, h4⟩ := insAllI_asc r h1
    refine ⟨h3, fun y => ?_⟩
    show y ∈ insAllI (insI l x) r ↔ _
    rw [h4, h2, List.mem_cons, or_assoc]
theorem insAllI_snoc : ∀ (l r : List Int) (x : Int), insAllI l (r ++ [x]) = insI (insAllI l r) x
  | l, [], x => rfl
  | l, y :: r, x => insAllI_snoc (insI l y) r x
theorem insAllI_len : ∀ (l r : List Int), (insAllI l r).length ≤ l.length + r.length
  | l, [] => by simp [insAllI]
  | l, x :: r => by have h1 := insAllI_len (insI l x) r; have h2 := insI_len l x; show (insAllI (insI l x) r).length ≤ _; simp only [List.length_cons]; omega
theorem asc_nil : Asc [] := by simp [Asc]
theorem uniq_ins (zs : List Int) : uniq zs = insAllI [] zs := uniq_is (insAllI_asc zs asc_nil).1 fun x => by rw [(insAllI_asc zs asc_nil).2]; simp
theorem insTo_succ {L : List Int} {k : Nat} {x : Int} (h : L[k]? = some x) : insAllI [] (L.take (k + 1)) = insI (insAllI [] (L.take k)) x := by
  have hk := (List.getElem?_eq_some_iff.1 h).1
  rw [List.take_succ_eq_append_getElem hk, insAllI_snoc, (List.getElem?_eq_some_iff.1 h).2]
end Go.Proofs.Yticbdpkmpnechaa
