/- Plain lemmas: directed words: each is a palindrome, begins the next, has at most 2^n - 1 letters, is rich (a look through all directions of at most six of three letters). No program in sight. -/
import Derived.Test.YtlmciomoimfajaaR2
import Derived.Test.YtlmciomoimfajaaG9
namespace Go.Proofs.Ytlmciomoimfajaa
set_option linter.unusedVariables false

theorem ciGo_spec (l : List UInt8) : ∀ f k, k + f = l.length → Pal (l.drop (ciGo l f k)) ∧ ∀ j, k ≤ j → j < ciGo l f k → ¬ Pal (l.drop j)
  | 0, k, h => by
    unfold ciGo
    exact ⟨by rw [List.drop_of_length_le (by omega)]; exact pal_nil', fun j a b => by omega⟩
  | f + 1, k, h => by
    unfold ciGo
    split
    · rename_i hp
      exact ⟨isPalL_iff.1 hp, fun j a b => by omega⟩
    · rename_i hp
      obtain ⟨h1, h2⟩ := ciGo_spec l f (k + 1) (by omega)
      refine ⟨h1, fun j a b hj => ?_⟩
      rcases Nat.eq_or_lt_of_le a with rfl | a
      · exact hp (isPalL_iff.2 hj)
      · exact h2 j (by omega) b hj
theorem ci_spec (l : List UInt8) : Pal (l.drop (ci l)) ∧ ∀ j, j < ci l → ¬ Pal (l.drop j) := by
  have := ciGo_spec l l.length 0 (by omega)
  exact ⟨this.1, fun j hj => this.2 j (by omega) hj⟩
theorem close_clo (l : List UInt8) : closeL l = clo l.reverse := by
  obtain ⟨h1, h2⟩ := ci_spec l
  have hc := ci_le l
  have hpre : l.drop (ci l) <+: l.reverse := by
    have : (l.drop (ci l)).reverse <+: l.reverse := List.reverse_prefix.2 (List.drop_suffix _ _)
    rw [← (show l.drop (ci l) = (l.drop (ci l)).reverse from h1)] at this
    exact this
  have hq : lpp l.reverse = l.drop (ci l) := by
    refine lpp_is hpre h1 ?_
    have hp := lpp_pal l.reverse
    have hs : lpp l.reverse <:+ l := by
      have := List.reverse_suffix.2 (lpp_pre l.reverse)
      rw [← (show lpp l.reverse = (lpp l.reverse).reverse from hp), List.reverse_reverse] at this
      exact this
    have hl := hs.length_le
    have e : lpp l.reverse = l.drop (l.length - (lpp l.reverse).length) := List.suffix_iff_eq_drop.1 hs
    have hge : ci l ≤ l.length - (lpp l.reverse).length := by
      rcases Nat.lt_or_ge (l.length - (lpp l.reverse).length) (ci l) with h | h
      · exact absurd (by rw [← e]; exact hp) (h2 _ h)
      · exact h
    rw [List.length_drop]; omega
  unfold clo closeL
  rw [hq, List.length_drop]
  have e1 : (l.reverse.drop (l.length - ci l)).reverse = l.take (ci l) := by
    rw [List.drop_reverse, List.reverse_reverse, show l.length - (l.length - ci l) = ci l by omega]
  rw [e1]
  have e2 : l = l.take (ci l) ++ l.drop (ci l) := (List.take_append_drop _ _).symm
  have e3 : l.reverse = l.drop (ci l) ++ (l.take (ci l)).reverse := by
    conv => lhs; rw [e2]
    rw [List.reverse_append, ← (show l.drop (ci l) = (l.drop (ci l)).reverse from h1)]
  rw [e3, ← List.append_assoc, List.take_append_drop]
theorem closeL_pal (l : List UInt8) : Pal (closeL l) := by rw [close_clo]; exact clo_pal _
theorem closeL_pre (l : List UInt8) : l <+: closeL l := List.prefix_append _ _
/-- the word that a direction makes -/
def dirF (v : List UInt8) : List UInt8 := v.foldl (fun w c => closeL (w ++ [c])) []
theorem dirF_snoc (v : List UInt8) (c : UInt8) : dirF (v ++ [c]) = closeL (dirF v ++ [c]) := by simp [dirF]
theorem snoc_cases (v : List UInt8) : v = [] ∨ ∃ d c, v = d ++ [c] := by
  rcases List.eq_nil_or_concat v with h | ⟨d, c, h⟩
  · exact .inl h
  · exact .inr ⟨d, c, by rw [h, List.concat_eq_append]⟩
theorem dirF_pal (v : List UInt8) : Pal (dirF v) := by
  rcases snoc_cases v with rfl | ⟨d, c, rfl⟩
  · exact pal_nil'
  · rw [dirF_snoc]; exact closeL_pal _
theorem dirF_next (v : List UInt8) (c : UInt8) : dirF v ++ [c] <+: dirF (v ++ [c]) := by rw [dirF_snoc]; exact closeL_pre _
theorem dirF_pre (v : List UInt8) : ∀ r : List UInt8, dirF v <+: dirF (v ++ r) := by
  intro r
  induction r generalizing v with
  | nil => rw [List.append_nil]; exact List.prefix_rfl
  | cons c r ih =>
    have h1 : dirF v <+: dirF (v ++ [c]) := (List.prefix_append _ _).trans (dirF_next v c)
    have h2 := ih (v ++ [c])
    rw [List.append_assoc] at h2
    exact h1.trans h2
theorem ci_snoc (w : List UInt8) (c : UInt8) : ci (w ++ [c]) ≤ w.length := by
  rcases Nat.lt_or_ge w.length (ci (w ++ [c])) with h | h
  · exact absurd (by rw [List.drop_left' rfl]; rfl) ((ci_spec (w ++ [c])).2 w.length h)
  · exact h
theorem dirF_len (v : List UInt8) : (dirF v).length + 1 ≤ 2 ^ v.length := by
  induction hn : v.length generalizing v with
  | zero => rw [List.eq_nil_of_length_eq_zero hn]; simp [dirF]
  | succ n ih =>
    rcases snoc_cases v with rfl | ⟨d, c, rfl⟩
    · simp at hn
    · have h1 := ih d (by simpa using hn)
      have h2 := ci_snoc (dirF d) c
      rw [dirF_snoc, closeL, List.length_append, List.length_reverse, List.length_take, List.length_append, Nat.pow_succ]
      simp only [List.length_cons, List.length_nil]
      omega
theorem dirF_mem {v : List UInt8} {x : UInt8} (h : x ∈ dirF v) : x ∈ v := by
  induction hn : v.length generalizing v with
  | zero => rw [List.eq_nil_of_length_eq_zero hn] at h; simp [dirF] at h
  | succ n ih =>
    rcases snoc_cases v with rfl | ⟨d, c, rfl⟩
    · simp at hn
    · rw [dirF_snoc] at h
      have := closeL_mem h
      rcases List.mem_append.1 this with h | h
      · exact List.mem_append_left _ (ih h (by simpa using hn))
      · exact List.mem_append_right _ h
theorem dirF_word {v : List UInt8} (hw : ∀ c ∈ v, abcd c = true) (hl : v.length ≤ 6) : wordL (dirF v) = true ∧ (dirF v).length ≤ 63 := by
  have h1 := dirF_len v
  have h2 : 2 ^ v.length ≤ 2 ^ 6 := Nat.pow_le_pow_right (by omega) hl
  have h3 : (2 : Nat) ^ 6 = 64 := rfl
  exact ⟨wordL_mk (fun c hc => hw c (dirF_mem hc)) (by omega), by omega⟩
theorem dwGo_dir : ∀ (r d : List UInt8), (∀ c ∈ d ++ r, abcd c = true) → (d ++ r).length ≤ 6 → dwGo r (dirF d) = some (dirF (d ++ r))
  | [], d, _, _ => by rw [List.append_nil]; rfl
  | c :: r, d, hw, hl => by
    have e : d ++ c :: r = (d ++ [c]) ++ r := by simp
    rw [e] at hw hl ⊢
    have hword : wordL (closeL (dirF d ++ [c])) = true := by
      rw [← dirF_snoc]
      exact (dirF_word (fun x hx => hw x (List.mem_append_left _ hx)) (by rw [List.length_append] at hl; omega)).1
    rw [dwGo_yes hword, ← dirF_snoc]
    exact dwGo_dir r (d ++ [c]) hw hl
theorem dwW_dir {v : ByteArray} (hw : wordL v.data.toList = true) (hl : v.size ≤ 6) : dwW v = (St (dirF v.data.toList), true) := by
  have hok : dwOk v = true := by unfold dwOk; rw [hw, decide_eq_true (by omega)]; rfl
  unfold dwW
  rw [if_pos hok]
  have := dwGo_dir v.data.toList [] (by simpa using wordL_all hw) (by rw [List.nil_append, ← size_len]; exact hl)
  rw [show dirF [] = [] from rfl, List.nil_append] at this
  rw [this]; rfl
theorem doGo_dir : ∀ (r d : List UInt8) (f : Nat), r.length ≤ f → doGo (dirF (d ++ r)) f d (dirF d) = (St (d ++ r), true)
  | [], d, f, _ => by
    rw [List.append_nil, doGo_stop (.inr (by omega)), doFin, if_pos rfl]
  | c :: r, d, 0, h => by simp at h
  | c :: r, d, f + 1, h => by
    have e : d ++ c :: r = (d ++ [c]) ++ r := by simp
    rw [e]
    obtain ⟨t, ht⟩ := (dirF_next d c).trans (dirF_pre (d ++ [c]) r)
    have hlt : (dirF d).length < (dirF ((d ++ [c]) ++ r)).length := by rw [← ht]; simp
    have hg : (dirF ((d ++ [c]) ++ r)).getD (dirF d).length 0 = c := by rw [← ht]; simp
    rw [doGo, if_pos hlt, hg, ← dirF_snoc]
    exact doGo_dir r (d ++ [c]) f (by simpa using h)
theorem dofW_dir {v : List UInt8} (hw : ∀ c ∈ v, abcd c = true) (hl : v.length ≤ 6) : dofW (St (dirF v)) = (St v, true) := by
  unfold dofW
  rw [St_data, if_pos (dirF_word hw hl).1]
  have := doGo_dir v [] 12 (by omega)
  rw [show dirF [] = [] from rfl, List.nil_append] at this
  exact this

/-! richness -/
def infB (p : List UInt8) : List UInt8 → Bool
  | [] => p.isEmpty
  | c :: r => p.isPrefixOf (c :: r) || infB p r
theorem infB_iff {p : List UInt8} : ∀ l : List UInt8, infB p l = true ↔ p <:+: l
  | [] => by
    unfold infB; rw [List.isEmpty_iff]
    exact ⟨fun h => by rw [h]; exact List.infix_rfl, List.infix_nil.1⟩
  | c :: r => by
    unfold infB
    rw [Bool.or_eq_true, infB_iff r, List.isPrefixOf_iff_prefix, infix_cons]
def chk : Nat → List UInt8 → Bool
  | 0, _ => true
  | m + 1, w => [97, 98, 99].all fun x => !(infB (lpp (x :: w)) w) && chk m (clo (x :: w))
def run (w : List UInt8) (r : List UInt8) : List UInt8 := r.foldl (fun w c => clo (c :: w)) w
theorem chk_rich : ∀ (r : List UInt8) (m : Nat) (w : List UInt8), chk m w = true → Rich w → r.length ≤ m → (∀ c ∈ r, c = 97 ∨ c = 98 ∨ c = 99) → Rich (run w r)
  | [], _, _, _, h, _, _ => h
  | c :: r, 0, _, _, _, h, _ => by simp at h
  | c :: r, m + 1, w, hc, hr, hl, hm => by
    have hx : c ∈ ([97, 98, 99] : List UInt8) := by
      rcases hm c (by simp) with rfl | rfl | rfl <;> simp
    unfold chk at hc
    have := List.all_eq_true.1 hc c hx
    rw [Bool.and_eq_true] at this
    have h1 : ¬ lpp (c :: w) <:+: w := by
      intro h
      have := this.1
      rw [(infB_iff w).2 h] at this; cases this
    exact chk_rich r m (clo (c :: w)) this.2 (rich_clo (rich_cons.2 ⟨hr, h1⟩)) (by simpa using hl) fun x hx => hm x (by simp [hx])
theorem run_dir : ∀ (r d : List UInt8), run (dirF d) r = dirF (d ++ r)
  | [], d => by rw [List.append_nil]; rfl
  | c :: r, d => by
    have e : d ++ c :: r = (d ++ [c]) ++ r := by simp
    have e2 : clo (c :: dirF d) = dirF (d ++ [c]) := by
      rw [dirF_snoc, close_clo, List.reverse_append, ← (show dirF d = (dirF d).reverse from dirF_pal d)]; rfl
    rw [e, ← run_dir r (d ++ [c]), ← e2]; rfl
theorem chk_six : chk 6 [] = true := by decide +kernel
theorem dirF_rich {v : List UInt8} (hl : v.length ≤ 6) (hm : ∀ c ∈ v, c = 97 ∨ c = 98 ∨ c = 99) : Rich (dirF v) := by
  have := chk_rich v 6 [] chk_six rich_nil hl hm
  have e := run_dir v []
  rw [show dirF [] = [] from rfl, List.nil_append] at e
  rw [← e]; exact this
end Go.Proofs.Ytlmciomoimfajaa
