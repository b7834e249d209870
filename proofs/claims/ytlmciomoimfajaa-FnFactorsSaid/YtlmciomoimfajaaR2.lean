/- Plain lemmas: palindromic parts of a list: each letter more gives at most one more, the longest palindromic beginning; rich lists and their closure. No program in sight. -/
import Derived.Test.YtlmciomoimfajaaG8
namespace Go.Proofs.Ytlmciomoimfajaa
set_option linter.unusedVariables false

def Pal (l : List UInt8) : Prop := l = l.reverse
theorem isPalL_iff {l : List UInt8} : isPalL l = true ↔ Pal l := by unfold isPalL Pal; exact decide_eq_true_iff
theorem pal_nil' : Pal [] := rfl
/-- the longest palindromic beginning, of at most k letters -/
def lppGo (l : List UInt8) : Nat → List UInt8
  | 0 => []
  | k + 1 => if isPalL (l.take (k + 1)) = true then l.take (k + 1) else lppGo l k
def lpp (l : List UInt8) : List UInt8 := lppGo l l.length
theorem lppGo_spec (l : List UInt8) : ∀ k, k ≤ l.length → Pal (lppGo l k) ∧ lppGo l k <+: l ∧ ∀ p, p <+: l → Pal p → p.length ≤ k → p.length ≤ (lppGo l k).length
  | 0, _ => ⟨pal_nil', List.nil_prefix, fun p _ _ h => by simpa [lppGo] using h⟩
  | k + 1, hk => by
    unfold lppGo
    split
    · rename_i h
      refine ⟨isPalL_iff.1 h, List.take_prefix _ _, fun p _ _ hp => ?_⟩
      rw [List.length_take]; omega
    · rename_i h
      obtain ⟨h1, h2, h3⟩ := lppGo_spec l k (by omega)
      refine ⟨h1, h2, fun p hp hpal hl => ?_⟩
      rcases Nat.eq_or_lt_of_le hl with e | hlt
      · exfalso
        have := List.prefix_iff_eq_take.1 hp
        rw [e] at this
        rw [← this] at h
        exact h (isPalL_iff.2 hpal)
      · exact h3 p hp hpal (by omega)
theorem lpp_pal (l : List UInt8) : Pal (lpp l) := (lppGo_spec l _ (Nat.le_refl _)).1
theorem lpp_pre (l : List UInt8) : lpp l <+: l := (lppGo_spec l _ (Nat.le_refl _)).2.1
theorem lpp_max {l p : List UInt8} (h : p <+: l) (hp : Pal p) : p.length ≤ (lpp l).length := (lppGo_spec l _ (Nat.le_refl _)).2.2 p h hp h.length_le
theorem lpp_is {l p : List UInt8} (h : p <+: l) (hp : Pal p) (hm : (lpp l).length ≤ p.length) : lpp l = p := by
  have h1 := lpp_max h hp
  have e1 := List.prefix_iff_eq_take.1 (lpp_pre l)
  have e2 := List.prefix_iff_eq_take.1 h
  rw [e1, e2, show (lpp l).length = p.length by omega]

/-- the palindromic parts -/
def pf : List UInt8 → List (List UInt8)
  | [] => [[]]
  | c :: r => if lpp (c :: r) ∈ pf r then pf r else lpp (c :: r) :: pf r
theorem infix_cons {p : List UInt8} {c : UInt8} {r : List UInt8} : p <:+: c :: r ↔ p <+: c :: r ∨ p <:+: r := List.infix_cons_iff
theorem pf_mem : ∀ (l p : List UInt8), p ∈ pf l ↔ Pal p ∧ p <:+: l
  | [], p => by
    rw [pf, List.mem_singleton]
    constructor
    · rintro rfl; exact ⟨pal_nil', List.infix_rfl⟩
    · rintro ⟨_, h⟩; exact List.infix_nil.1 h
  | c :: r, p => by
    have ih := pf_mem r
    have key : p ∈ pf (c :: r) ↔ p = lpp (c :: r) ∨ p ∈ pf r := by
      rw [pf]; split
      · rename_i h
        constructor
        · exact .inr
        · rintro (rfl | h2)
          · exact h
          · exact h2
      · rw [List.mem_cons]
    rw [key, ih, infix_cons]
    constructor
    · rintro (rfl | ⟨h1, h2⟩)
      · exact ⟨lpp_pal _, .inl (lpp_pre _)⟩
      · exact ⟨h1, .inr h2⟩
    · rintro ⟨h1, h2 | h2⟩
      · have hl := lpp_max h2 h1
        rcases Nat.eq_or_lt_of_le hl with e | hlt
        · exact .inl (lpp_is h2 h1 (by omega)).symm
        · right
          refine ⟨h1, ?_⟩
          -- shorter than the longest: it also ends the longest
          have hp : p <+: lpp (c :: r) := List.prefix_of_prefix_length_le h2 (lpp_pre _) hl
          have hs : p <:+ lpp (c :: r) := by
            have := List.reverse_suffix.2 hp
            rw [← (show p = p.reverse from h1), ← (show lpp (c :: r) = (lpp (c :: r)).reverse from lpp_pal _)] at this
            exact this
          obtain ⟨t, ht⟩ := hs
          obtain ⟨u, hu⟩ := lpp_pre (c :: r)
          cases t with
          | nil => simp at ht; rw [ht] at hlt; omega
          | cons a t =>
            rw [← ht, List.cons_append, List.cons_append] at hu
            have := (List.cons.inj hu).2
            exact ⟨t, u, this⟩
      · exact .inr ⟨h1, h2⟩
theorem pf_nodup : ∀ l : List UInt8, (pf l).Nodup
  | [] => by simp [pf]
  | c :: r => by
    rw [pf]; split
    · exact pf_nodup r
    · rename_i h; exact List.nodup_cons.2 ⟨h, pf_nodup r⟩
theorem pf_len : ∀ l : List UInt8, (pf l).length ≤ l.length + 1
  | [] => by simp [pf]
  | c :: r => by
    have := pf_len r
    rw [pf]; split
    · simp; omega
    · simp; omega
def Rich (l : List UInt8) : Prop := (pf l).length = l.length + 1
theorem rich_nil : Rich [] := rfl
theorem rich_cons {c : UInt8} {r : List UInt8} : Rich (c :: r) ↔ Rich r ∧ ¬ lpp (c :: r) <:+: r := by
  have hl := pf_len r
  have hm : lpp (c :: r) ∈ pf r ↔ lpp (c :: r) <:+: r := by rw [pf_mem]; exact ⟨fun h => h.2, fun h => ⟨lpp_pal _, h⟩⟩
  unfold Rich
  rw [pf]; split
  · rename_i h
    have h2 := hm.1 h
    rw [List.length_cons]
    constructor
    · intro e; omega
    · rintro ⟨_, h3⟩; exact absurd h2 h3
  · rename_i h
    rw [List.length_cons, List.length_cons]
    constructor
    · intro e; exact ⟨by omega, fun h2 => h (hm.2 h2)⟩
    · rintro ⟨e, _⟩; omega

/-- the closure to the left: the longest palindromic beginning Q, u = Q g; then the turned g in front -/
def clo (u : List UInt8) : List UInt8 := (u.drop (lpp u).length).reverse ++ u
theorem lpp_split (u : List UInt8) : u = lpp u ++ u.drop (lpp u).length := by
  have e := List.prefix_iff_eq_take.1 (lpp_pre u)
  calc u = u.take (lpp u).length ++ u.drop (lpp u).length := (List.take_append_drop _ _).symm
    _ = lpp u ++ u.drop (lpp u).length := by rw [← e]
theorem clo_pal (u : List UInt8) : Pal (clo u) := by
  have h := lpp_split u
  have hp := lpp_pal u
  unfold clo
  generalize u.drop (lpp u).length = g at h
  generalize lpp u = Q at h hp
  subst h
  unfold Pal at hp ⊢
  rw [List.reverse_append, List.reverse_append, List.reverse_reverse, ← hp, List.append_assoc]
/-- a rich list's closure is rich -/
theorem rich_clo {c : UInt8} {r : List UInt8} (h : Rich (c :: r)) : Rich (clo (c :: r)) := by
  have hQ := (rich_cons.1 h).2
  have hsp := lpp_split (c :: r)
  have hp := lpp_pal (c :: r)
  unfold clo
  generalize hg : (c :: r).drop (lpp (c :: r)).length = g at hsp
  generalize hq : lpp (c :: r) = Q at hsp hp hQ
  rw [hsp] at h
  have key : ∀ k, k ≤ g.length → Rich ((g.take k).reverse ++ (Q ++ g)) := by
    intro k
    induction k with
    | zero => intro _; simpa using h
    | succ k ih =>
      intro hk
      have e : (g.take (k + 1)).reverse = g[k]'(by omega) :: (g.take k).reverse := by
        rw [List.take_succ_eq_append_getElem (by omega), List.reverse_append]; rfl
      rw [e, List.cons_append, rich_cons]
      refine ⟨ih (by omega), fun hin => ?_⟩
      -- the palindrome about Q
      have hxp : Pal ((g.take (k + 1)).reverse ++ (Q ++ g.take (k + 1))) := by
        unfold Pal at hp ⊢
        rw [List.reverse_append, List.reverse_append, List.reverse_reverse, ← hp, List.append_assoc]
      have hxpre : (g.take (k + 1)).reverse ++ (Q ++ g.take (k + 1)) <+: g[k]'(by omega) :: ((g.take k).reverse ++ (Q ++ g)) := by
        rw [← List.cons_append, ← e]
        exact (List.prefix_append_right_inj _).2 ((List.prefix_append_right_inj _).2 (List.take_prefix _ _))
      have hxl : (g.take (k + 1)).reverse ++ (Q ++ g.take (k + 1)) <+: lpp (g[k]'(by omega) :: ((g.take k).reverse ++ (Q ++ g))) :=
        List.prefix_of_prefix_length_le hxpre (lpp_pre _) (lpp_max hxpre hxp)
      have hxin : (g.take (k + 1)).reverse ++ (Q ++ g.take (k + 1)) <:+: (g.take k).reverse ++ (Q ++ g) := hxl.isInfix.trans hin
      -- so Q stands in r
      obtain ⟨a, b, hab⟩ := hxin
      refine hQ ?_
      have hd := congrArg (List.drop (k + 1)) hab
      have l1 : ((g.take (k + 1)).reverse).length = k + 1 := by rw [List.length_reverse, List.length_take]; omega
      have l0 : ((g.take k).reverse).length = k := by rw [List.length_reverse, List.length_take]; omega
      have hd2 : List.drop (k + 1) ((g.take k).reverse ++ (Q ++ g)) = r := by
        rw [← hsp, List.drop_append, l0, List.drop_of_length_le (by omega), show k + 1 - k = 1 by omega]; rfl
      rw [hd2] at hd
      rw [← hd]
      have e4 : a ++ ((g.take (k + 1)).reverse ++ (Q ++ g.take (k + 1))) ++ b = (a ++ (g.take (k + 1)).reverse) ++ (Q ++ (g.take (k + 1) ++ b)) := by simp only [List.append_assoc]
      rw [e4, List.drop_append_of_le_length (by rw [List.length_append, l1]; omega)]
      exact ⟨List.drop (k + 1) (a ++ (g.take (k + 1)).reverse), g.take (k + 1) ++ b, List.append_assoc _ _ _⟩
  have := key g.length (Nat.le_refl _)
  rw [List.take_length, ← hsp] at this
  exact this
/-- a list all whose palindromes are counted twice over: two lists without repeats and with the same members -/
theorem nodup_le : ∀ {a b : List (List UInt8)}, a.Nodup → (∀ x ∈ a, x ∈ b) → a.length ≤ b.length
  | [], b, _, _ => by simp
  | x :: a, b, h, hs => by
    have h' := List.nodup_cons.1 h
    have hx := hs x (by simp)
    have ih := nodup_le (a := a) (b := b.erase x) h'.2 fun y hy => by
      have hne : y ≠ x := by rintro rfl; exact h'.1 hy
      exact (List.mem_erase_of_ne hne).2 (hs y (by simp [hy]))
    rw [List.length_erase_of_mem hx] at ih
    have := List.length_pos_of_mem hx
    rw [List.length_cons]; omega
end Go.Proofs.Ytlmciomoimfajaa
