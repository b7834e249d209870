/- Plain lemmas for FirstUnbalance: the least of the words that pass a test, as a fold over the parts finds it and as a look through the ascending parts finds it. No program in sight. -/
import Derived.Test.YticbdpkmpnechaaT7
import Derived.Test.YticbdpkmpnechaaT9
import Derived.Test.YticbdpkmpnechaaT8
import Derived.Lib.IndexMore
namespace Go.Proofs.Yticbdpkmpnechaa
open Go.RowKit
set_option linter.unusedVariables false

def stepU (P : ByteArray → Bool) (g : ByteArray → ByteArray) (r : Option ByteArray) (f : ByteArray) : Option ByteArray :=
  if P f = true then (match r with | none => some (g f) | some v => if ltT (g f) v = true then some (g f) else some v) else r
def foldU (P : ByteArray → Bool) (g : ByteArray → ByteArray) (r : Option ByteArray) (l : List ByteArray) : Option ByteArray := l.foldl (stepU P g) r
def IsLeast (P : ByteArray → Bool) (g : ByteArray → ByteArray) (l : List ByteArray) (R : Option ByteArray) : Prop :=
  (R = none ∧ ∀ f ∈ l, P f = false) ∨ ∃ u, R = some u ∧ (∃ f ∈ l, P f = true ∧ u = g f) ∧ ∀ f ∈ l, P f = true → ¬ (g f).data.toList < u.data.toList
theorem foldU_is (P : ByteArray → Bool) (g : ByteArray → ByteArray) : ∀ (l : List ByteArray) (r : Option ByteArray),
    (foldU P g r l = none ∧ r = none ∧ ∀ f ∈ l, P f = false) ∨ ∃ u, foldU P g r l = some u ∧ (r = some u ∨ ∃ f ∈ l, P f = true ∧ u = g f) ∧ (∀ v, r = some v → ¬ v.data.toList < u.data.toList) ∧ ∀ f ∈ l, P f = true → ¬ (g f).data.toList < u.data.toList
  | [], none => .inl ⟨rfl, rfl, by simp⟩
  | [], some v => .inr ⟨v, rfl, .inl rfl, fun x hx => by rw [Option.some.inj hx]; exact ll_irr _, by simp⟩
  | f :: l, r => by
    have ih := foldU_is P g l (stepU P g r f)
    change (foldU P g (stepU P g r f) l = none ∧ r = none ∧ _) ∨ ∃ u, foldU P g (stepU P g r f) l = some u ∧ _
    by_cases hp : P f = true
    · have hst : ∃ v, stepU P g r f = some v ∧ (r = some v ∨ v = g f) ∧ (∀ x, r = some x → ¬ x.data.toList < v.data.toList) ∧ ¬ (g f).data.toList < v.data.toList := by
        unfold stepU
        rw [if_pos hp]
        cases r with
        | none => exact ⟨g f, rfl, .inr rfl, (fun x hx => by cases hx), ll_irr _⟩
        | some v =>
          by_cases hlt : ltT (g f) v = true
          · refine ⟨g f, if_pos hlt, .inr rfl, fun x hx => ?_, ll_irr _⟩
            rw [← Option.some.inj hx]
            unfold ltT at hlt
            exact fun h' => ll_irr _ (ll_tr (of_decide_eq_true hlt) h')
          · refine ⟨v, if_neg hlt, .inl rfl, fun x hx => by rw [← Option.some.inj hx]; exact ll_irr _, ?_⟩
            unfold ltT at hlt
            exact fun h' => hlt (decide_eq_true h')
      obtain ⟨v, hv, hv1, hv2, hv3⟩ := hst
      rcases ih with ⟨_, h, _⟩ | ⟨u, h1, h2, h3, h4⟩
      · rw [hv] at h; cases h
      · have h3' := h3 v hv
        have hle : ∀ x : ByteArray, ¬ x.data.toList < v.data.toList → ¬ x.data.toList < u.data.toList := fun x hx hlt => by
          have e1 := ll_le.2 h3'
          exact hx (by
            rcases Classical.em (u.data.toList = v.data.toList) with e | e
            · rw [← e]; exact hlt
            · exact ll_tr hlt (ll_lt e1 e))
        refine .inr ⟨u, h1, ?_, fun x hx => hle x (hv2 x hx), fun x hx hpx => ?_⟩
        · rcases h2 with h2 | ⟨f', hf', hpf, e⟩
          · rw [hv] at h2
            have e := Option.some.inj h2
            subst e
            rcases hv1 with h | h
            · exact .inl h
            · exact .inr ⟨f, by simp, hp, h⟩
          · exact .inr ⟨f', by simp [hf'], hpf, e⟩
        · rcases List.mem_cons.1 hx with rfl | hx
          · exact hle _ hv3
          · exact h4 x hx hpx
    · have hst : stepU P g r f = r := by unfold stepU; rw [if_neg hp]
      rw [hst] at ih ⊢
      rcases ih with ⟨h1, h2, h3⟩ | ⟨u, h1, h2, h3, h4⟩
      · refine .inl ⟨h1, h2, fun x hx => ?_⟩
        rcases List.mem_cons.1 hx with rfl | hx
        · simpa using hp
        · exact h3 x hx
      · refine .inr ⟨u, h1, ?_, h3, fun x hx hpx => ?_⟩
        · rcases h2 with h2 | ⟨f', hf', hpf, e⟩
          · exact .inl h2
          · exact .inr ⟨f', by simp [hf'], hpf, e⟩
        · rcases List.mem_cons.1 hx with rfl | hx
          · exact absurd hpx hp
          · exact h4 x hx hpx
theorem foldU_least (P : ByteArray → Bool) (g : ByteArray → ByteArray) (l : List ByteArray) : IsLeast P g l (foldU P g none l) := by
  rcases foldU_is P g l none with ⟨h1, _, h3⟩ | ⟨u, h1, h2, _, h4⟩
  · exact .inl ⟨h1, h3⟩
  · refine .inr ⟨u, h1, ?_, h4⟩
    rcases h2 with h | h
    · cases h
    · exact h
theorem least_ext {P : ByteArray → Bool} {g : ByteArray → ByteArray} {l l' : List ByteArray} {R R' : Option ByteArray} (hm : ∀ x, x ∈ l ↔ x ∈ l') (h : IsLeast P g l R) (h' : IsLeast P g l' R') : R = R' := by
  rcases h with ⟨rfl, h1⟩ | ⟨u, rfl, ⟨f, hf, hp, e⟩, h2⟩ <;> rcases h' with ⟨rfl, h1'⟩ | ⟨u', rfl, ⟨f', hf', hp', e'⟩, h2'⟩
  · rfl
  · exact absurd hp' (by rw [h1 f' ((hm f').2 hf')]; decide)
  · exact absurd hp (by rw [h1' f ((hm f).1 hf)]; decide)
  · have a1 := h2 f' ((hm f').2 hf') hp'
    have a2 := h2' f ((hm f).1 hf) hp
    rw [← e'] at a1
    rw [← e] at a2
    rw [str_inj (ll_eq (ll_le.2 a1) (ll_le.2 a2))]
theorem find_least {P : ByteArray → Bool} {g : ByteArray → ByteArray} {l : List ByteArray} (ha : AscS l) (hmono : ∀ f f', f ∈ l → f' ∈ l → P f = true → P f' = true → (g f).data.toList < (g f').data.toList → f.data.toList < f'.data.toList) : IsLeast P g l ((l.find? P).map g) := by
  cases hfd : l.find? P with
  | none => exact .inl ⟨rfl, fun f hf => by have := List.find?_eq_none.1 hfd f hf; simpa using this⟩
  | some f =>
    obtain ⟨hp, as1, bs, e, has⟩ := List.find?_eq_some_iff_append.1 hfd
    refine .inr ⟨g f, rfl, ⟨f, by rw [e]; simp, hp, rfl⟩, fun f' hf' hp' hlt => ?_⟩
    have h1 := hmono f' f hf' (by rw [e]; simp) hp' hp hlt
    rw [e] at hf' ha
    rcases List.mem_append.1 hf' with h | h
    · have := has f' h; rw [hp'] at this; exact absurd this (by decide)
    · rcases List.mem_cons.1 h with rfl | h
      · exact ll_irr _ h1
      · unfold AscS AscL bsL at ha
        rw [List.map_append, List.map_cons, List.pairwise_append] at ha
        have h2 := (List.pairwise_cons.1 ha.2.1).1 f'.data.toList (List.mem_map.2 ⟨f', h, rfl⟩)
        exact ll_irr _ (ll_tr h1 h2)
theorem app_lt : ∀ {a b : List UInt8} (c : List UInt8), a.length = b.length → a < b → a ++ c < b ++ c
  | [], [], _, _, h => absurd h (ll_irr _)
  | [], _ :: _, _, h, _ => by simp at h
  | _ :: _, [], _, h, _ => by simp at h
  | x :: a, y :: b, c, h, hlt => by
    rw [List.cons_lt_cons_iff] at hlt
    rw [List.cons_append, List.cons_append, List.cons_lt_cons_iff]
    rcases hlt with h1 | ⟨h1, h2⟩
    · exact .inl h1
    · exact .inr ⟨h1, app_lt c (by simpa using h) h2⟩

/-! the test on a part of n + 2 letters: an 'a', a palindrome that also stands between two letters b, an 'a' -/
def wrapB (c : UInt8) (u : ByteArray) : ByteArray := (⟨#[c]⟩ : ByteArray) ++ u ++ (⟨#[c]⟩ : ByteArray)
theorem wrapB_data (c : UInt8) (u : ByteArray) : (wrapB c u).data.toList = c :: (u.data.toList ++ [c]) := by
  unfold wrapB; rw [ByteArray.data_append, ByteArray.data_append, Array.toList_append, Array.toList_append]; rfl
theorem wrapB_size (c : UInt8) (u : ByteArray) : (wrapB c u).size = u.size + 2 := by rw [size_len, wrapB_data, size_len]; simp
theorem wrapB_mid (c : UInt8) (u : ByteArray) : (wrapB c u).extract 1 (1 + u.size) = u := by
  apply str_inj
  rw [ext_data, wrapB_data, List.drop_one, List.tail_cons, Nat.add_sub_cancel_left, size_len, List.take_left]
def fuA (f : ByteArray) (k : Nat) : Bool := ((f.data.toList.getD k 0).toNat : Int) == 97
theorem fuA_eq (f : ByteArray) (k : Nat) (h : k < f.size) : (((f[k]'h).toNat : Int) == 97) = fuA f k := by
  unfold fuA
  rw [List.getD_eq_getElem?_getD, List.getElem?_eq_getElem (by rw [← size_len]; exact h)]; rfl
theorem fuA_get {f : ByteArray} {k : Nat} (h : k < f.size) (ha : fuA f k = true) : f.data.toList[k]? = some 97 := by
  unfold fuA at ha
  rw [List.getD_eq_getElem?_getD] at ha
  have hk : k < f.data.toList.length := by rw [← size_len]; exact h
  rw [List.getElem?_eq_getElem hk] at ha ⊢
  simp only [Option.getD_some, beq_iff_eq] at ha
  congr 1
  exact UInt8.toNat_inj.1 (by simpa using Int.ofNat.inj ha)
def uOf (n : Nat) (f : ByteArray) : ByteArray := f.extract 1 (n + 1)
def fuP (s : ByteArray) (n : Nat) (f : ByteArray) : Bool := fuA f 0 && (fuA f (n + 1) && (isPal (uOf n f) && Lib.contains s.data.toList (wrapB 98 (uOf n f)).data.toList))
theorem uOf_shape {f : ByteArray} {n : Nat} (hf : f.size = n + 2) (h0 : fuA f 0 = true) (h1 : fuA f (n + 1) = true) : f.data.toList = 97 :: ((uOf n f).data.toList ++ [97]) := by
  have e0 := fuA_get (by omega) h0
  have e1 := fuA_get (by omega) h1
  have hl : f.data.toList.length = n + 2 := by rw [← size_len]; exact hf
  unfold uOf
  rw [ext_data]
  apply List.ext_getElem?
  intro j
  rcases Nat.lt_trichotomy j (n + 1) with h | h | h
  · cases j with
    | zero => rw [e0]; rfl
    | succ j =>
      rw [List.getElem?_cons_succ, List.getElem?_append_left (by rw [List.length_take, List.length_drop]; omega), List.getElem?_take, if_pos (by omega), List.getElem?_drop]
      congr 1; omega
  · subst h
    rw [e1, List.getElem?_cons_succ, List.getElem?_append_right (by rw [List.length_take, List.length_drop]; omega), List.length_take, List.length_drop]
    rw [show n - min (n + 1 - 1) (f.data.toList.length - 1) = 0 by omega]; rfl
  · rw [List.getElem?_eq_none (by omega), List.getElem?_eq_none (by simp; omega)]
theorem fuP_mono {s f f' : ByteArray} {n : Nat} (hf : f.size = n + 2) (hf' : f'.size = n + 2) (hp : fuP s n f = true) (hp' : fuP s n f' = true) (h : (uOf n f).data.toList < (uOf n f').data.toList) : f.data.toList < f'.data.toList := by
  unfold fuP at hp hp'
  simp only [Bool.and_eq_true] at hp hp'
  rw [uOf_shape hf hp.1 hp.2.1, uOf_shape hf' hp'.1 hp'.2.1, List.cons_lt_cons_iff]
  refine .inr ⟨rfl, app_lt _ ?_ h⟩
  unfold uOf
  rw [← size_len, ← size_len, ext_size f 1 (n + 1) (by omega) (by omega), ext_size f' 1 (n + 1) (by omega) (by omega)]
def fuN (s : ByteArray) (n : Nat) : Option ByteArray := ((facW s (n + 2)).find? (fuP s n)).map (uOf n)
theorem fuN_fold (s : ByteArray) (n : Nat) : foldU (fuP s n) (uOf n) none (facL s (n + 2)) = fuN s n :=
  least_ext (fun x => by unfold facW; rw [uniqS_mem]) (foldU_least _ _ _) (find_least (facW_asc s (n + 2)) fun f f' hf hf' hp hp' h => fuP_mono (facW_size hf) (facW_size hf') hp hp' h)
def star : Option ByteArray → ByteArray
  | none => ⟨#[]⟩
  | some u => wrapB 42 u
def fuGo (s : ByteArray) : Nat → Nat → Option ByteArray
  | 0, _ => none
  | f + 1, n => match fuN s n with | some u => some u | none => fuGo s f (n + 1)
theorem fuGo_yes {s u : ByteArray} {f n : Nat} {R : Option ByteArray} (h : fuGo s f n = R) (hf : 0 < f) (hu : fuN s n = some u) : Hid (some u = R) := by
  obtain ⟨g, rfl⟩ : ∃ g, f = g + 1 := ⟨f - 1, by omega⟩
  unfold Hid; rw [← h, fuGo, hu]
theorem fuGo_no {s : ByteArray} {f n : Nat} {R : Option ByteArray} (h : fuGo s f n = R) (hf : 0 < f) (hu : fuN s n = none) : Hid (fuGo s (f - 1) (n + 1) = R) := by
  obtain ⟨g, rfl⟩ : ∃ g, f = g + 1 := ⟨f - 1, by omega⟩
  unfold Hid; rw [← h, fuGo, hu]; rfl
theorem uOf_ext (s : ByteArray) (i n : Nat) (h : i + n + 2 ≤ s.size) : uOf n (s.extract i (i + (n + 2))) = s.extract (i + 1) (i + 1 + n) := by
  unfold uOf
  apply str_inj
  rw [ext_data, ext_data, ext_data, List.drop_take, List.drop_drop, List.take_take]
  congr 1; omega
theorem fuA_ext (s : ByteArray) (i n k : Nat) (h : i + n + 2 ≤ s.size) (hk : k < n + 2) : fuA (s.extract i (i + (n + 2))) k = fuA s (i + k) := by
  unfold fuA
  rw [List.getD_eq_getElem?_getD, List.getD_eq_getElem?_getD, ext_data, List.getElem?_take, if_pos (by omega), List.getElem?_drop]
end Go.Proofs.Yticbdpkmpnechaa
