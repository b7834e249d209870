/- Plain lemmas for FnFactors: how many parts there are, the letters that continue a part, the reach. No program in sight. -/
import Derived.Test.YtlmciomoimfajaaR4
import Derived.Test.YtlmciomoimfajaaT7
import Derived.Test.YtlmciomoimfajaaT9
import Derived.Test.YtlmciomoimfajaaL6
import Derived.Test.YtlmciomoimfajaaQ0
import Derived.Test.YtlmciomoimfajaaV0
import Derived.Test.YtlmciomoimfajaaG1
namespace Go.Proofs.Ytlmciomoimfajaa
set_option linter.unusedVariables false

theorem fac_inf {s x : ByteArray} {n : Nat} : x ∈ facW s n ↔ x.size = n ∧ x.data.toList <:+: s.data.toList := by
  rw [facW_mem, inf_ext]
  constructor
  · rintro ⟨i, h1, h2⟩
    have hz : x.size = n := by rw [h2, ext_size s i (i + n) h1 (by omega)]; omega
    exact ⟨hz, i, by omega, by rw [hz]; exact h2⟩
  · rintro ⟨rfl, i, h1, h2⟩
    exact ⟨i, h1, h2⟩
theorem mem_bsL2 {l : List ByteArray} {y : List UInt8} : y ∈ bsL l ↔ St y ∈ l := by
  rw [← mem_bsL, St_data]
theorem fac_infL {s : ByteArray} {y : List UInt8} {n : Nat} : y ∈ bsL (facW s n) ↔ y.length = n ∧ y <:+: s.data.toList := by
  rw [mem_bsL2, fac_inf, St_size, St_data]
theorem contains_iff (s f : List UInt8) : Lib.contains s f = true ↔ f <:+: s := by
  constructor
  · intro h
    unfold Lib.contains at h
    rcases Lib.index_spec s f with ⟨h1, _⟩ | ⟨j, h1, h2⟩
    · rw [h1] at h; exact absurd (of_decide_eq_true h) (by omega)
    · have h3 := h2.2.1
      unfold Lib.occAt at h3
      rw [List.isPrefixOf_iff_prefix] at h3
      exact h3.isInfix.trans (List.drop_suffix _ _).isInfix
  · intro h
    have := contains_inf (s := St s) (x := St f) (by rw [St_data, St_data]; exact h)
    rw [St_data, St_data] at this; exact this
/-- the letters with which a part goes on: behind it, in front of it -/
def nbP (f : List UInt8) (b : Bool) (c : UInt8) : List UInt8 := if b = true then f ++ [c] else c :: f
def abcdL : List UInt8 := [97, 98, 99, 100]
def nbL (s f : List UInt8) (b : Bool) : List UInt8 := abcdL.filter fun c => Lib.contains s (nbP f b c)
def nbW (s f : ByteArray) (b : Bool) : ByteArray := St (nbL s.data.toList f.data.toList b)
theorem nbL_len (s f : List UInt8) (b : Bool) : (nbL s f b).length ≤ 4 := by
  have := List.length_filter_le (fun c => Lib.contains s (nbP f b c)) abcdL
  exact this
theorem nbW_size (s f : ByteArray) (b : Bool) : (nbW s f b).size = (nbL s.data.toList f.data.toList b).length := by unfold nbW; rw [St_size]
theorem nbL_nodup (s f : List UInt8) (b : Bool) : (nbL s f b).Nodup := List.Nodup.sublist List.filter_sublist (by decide)
theorem nbL_mem {s f : List UInt8} {b : Bool} {c : UInt8} (hs : ∀ x ∈ s, abcd x = true) : c ∈ nbL s f b ↔ nbP f b c <:+: s := by
  unfold nbL
  rw [List.mem_filter, contains_iff]
  constructor
  · exact fun h => h.2
  · intro h
    refine ⟨?_, h⟩
    have hc : c ∈ s := h.subset (by unfold nbP; split <;> simp)
    have h1 := abcd_iff.1 (hs c hc)
    have h2 : c.toNat = 97 ∨ c.toNat = 98 ∨ c.toNat = 99 ∨ c.toNat = 100 := by omega
    unfold abcdL
    rcases h2 with e | e | e | e
    · have : c = 97 := UInt8.toNat_inj.1 e
      rw [this]; simp
    · have : c = 98 := UInt8.toNat_inj.1 e
      rw [this]; simp
    · have : c = 99 := UInt8.toNat_inj.1 e
      rw [this]; simp
    · have : c = 100 := UInt8.toNat_inj.1 e
      rw [this]; simp
theorem sum_addL {α : Type} (a b : α → Nat) : ∀ L : List α, (L.map fun f => a f + b f).sum = (L.map a).sum + (L.map b).sum
  | [] => rfl
  | x :: L => by
    have := sum_addL a b L
    simp only [List.map_cons, List.sum_cons]; omega
theorem sum_zeroL {α : Type} : ∀ L : List α, (L.map fun _ => 0).sum = 0
  | [] => rfl
  | x :: L => by
    have := sum_zeroL L
    simp only [List.map_cons, List.sum_cons]; omega
theorem sum_none {β : Type} [DecidableEq β] (y : β) : ∀ L : List β, y ∉ L → (L.map fun f => if y = f then 1 else 0).sum = 0
  | [], _ => rfl
  | x :: L, h => by
    have ih := sum_none y L (fun h' => h (by simp [h']))
    have hx : ¬ y = x := fun e => h (by simp [e])
    simp only [List.map_cons, List.sum_cons, if_neg hx, ih]
theorem sum_one {β : Type} [DecidableEq β] (y : β) : ∀ L : List β, L.Nodup → y ∈ L → (L.map fun f => if y = f then 1 else 0).sum = 1
  | [], _, h => by simp at h
  | x :: L, hn, h => by
    have hn' := List.nodup_cons.1 hn
    by_cases hx : y = x
    · subst hx
      simp only [List.map_cons, List.sum_cons, if_pos, sum_none y L hn'.1]
    · have hL : y ∈ L := by
        rcases List.mem_cons.1 h with h | h
        · exact absurd h hx
        · exact h
      simp only [List.map_cons, List.sum_cons, if_neg hx, sum_one y L hn'.2 hL]
theorem sum_cls {α β : Type} [DecidableEq β] (g : α → β) (L : List β) (hL : L.Nodup) : ∀ M : List α, (∀ x ∈ M, g x ∈ L) → (L.map fun f => (M.filter fun x => decide (g x = f)).length).sum = M.length
  | [], _ => by simp only [List.filter_nil, List.length_nil]; exact sum_zeroL L
  | x :: M, h => by
    have ih := sum_cls g L hL M (fun y hy => h y (by simp [hy]))
    have e : (L.map fun f => ((x :: M).filter fun x => decide (g x = f)).length) = L.map fun f => (if g x = f then 1 else 0) + (M.filter fun x => decide (g x = f)).length := by
      refine List.map_congr_left fun f _ => ?_
      by_cases hf : g x = f
      · rw [List.filter_cons_of_pos (by simpa using hf), if_pos hf, List.length_cons]; omega
      · rw [List.filter_cons_of_neg (by simpa using hf), if_neg hf]; omega
    rw [e, sum_addL, ih, sum_one (g x) L hL (h x (by simp)), List.length_cons]; omega
/-- the part that a longer part continues -/
def nbF (n : Nat) (b : Bool) (x : List UInt8) : List UInt8 := if b = true then x.take n else x.drop 1
theorem nbF_P (f : List UInt8) (b : Bool) (c : UInt8) : nbF f.length b (nbP f b c) = f := by
  unfold nbF nbP; cases b
  · rfl
  · simp
theorem nbP_len (f : List UInt8) (b : Bool) (c : UInt8) : (nbP f b c).length = f.length + 1 := by unfold nbP; cases b <;> simp
theorem nbP_of {n : Nat} {x : List UInt8} (b : Bool) (h : x.length = n + 1) : ∃ c, x = nbP (nbF n b x) b c := by
  cases b
  · cases x with
    | nil => simp at h
    | cons c r => exact ⟨c, rfl⟩
  · refine ⟨x[n]'(by omega), ?_⟩
    unfold nbP nbF
    simp only [if_pos]
    rw [← List.take_succ_eq_append_getElem (by omega), List.take_of_length_le (by omega)]
theorem nbF_len {n : Nat} {x : List UInt8} (b : Bool) (h : x.length = n + 1) : (nbF n b x).length = n := by
  unfold nbF; cases b
  · simp [h]
  · simp [h]
theorem nbF_inf {n : Nat} {x : List UInt8} (b : Bool) : nbF n b x <:+: x := by
  unfold nbF; cases b
  · exact (List.drop_suffix _ _).isInfix
  · exact (List.take_prefix _ _).isInfix
theorem nb_inj {f : List UInt8} {b : Bool} {c d : UInt8} (h : nbP f b c = nbP f b d) : c = d := by
  unfold nbP at h; cases b
  · simpa using h
  · simpa using h
theorem nb_count {s : ByteArray} (hs : ∀ x ∈ s.data.toList, abcd x = true) {f : List UInt8} {n : Nat} (b : Bool) (hf : f.length = n) :
    (nbL s.data.toList f b).length = ((bsL (facW s (n + 1))).filter fun x => decide (nbF n b x = f)).length := by
  have h1 : ((nbL s.data.toList f b).map (nbP f b)).Nodup := by
    rw [List.nodup_iff_pairwise_ne, List.pairwise_map]
    exact (List.nodup_iff_pairwise_ne.1 (nbL_nodup s.data.toList f b)).imp fun hab e => hab (nb_inj e)
  have h2 : ((bsL (facW s (n + 1))).filter fun x => decide (nbF n b x = f)).Nodup := List.Nodup.sublist List.filter_sublist (asc_nodup (facW_asc s (n + 1)))
  have hm : ∀ y, y ∈ (nbL s.data.toList f b).map (nbP f b) ↔ y ∈ (bsL (facW s (n + 1))).filter fun x => decide (nbF n b x = f) := by
    intro y
    rw [List.mem_map, List.mem_filter, fac_infL, decide_eq_true_eq]
    constructor
    · rintro ⟨c, hc, rfl⟩
      exact ⟨⟨by rw [nbP_len, hf], (nbL_mem hs).1 hc⟩, by rw [← hf]; exact nbF_P f b c⟩
    · rintro ⟨⟨h3, h4⟩, h5⟩
      obtain ⟨c, hc⟩ := nbP_of b h3
      rw [h5] at hc
      exact ⟨c, (nbL_mem hs).2 (by rw [← hc]; exact h4), hc.symm⟩
  have e : (nbL s.data.toList f b).length = ((nbL s.data.toList f b).map (nbP f b)).length := by rw [List.length_map]
  rw [e]
  exact Nat.le_antisymm (nodup_le h1 fun x hx => (hm x).1 hx) (nodup_le h2 fun x hx => (hm x).2 hx)
theorem nb_sum {s : ByteArray} (hs : ∀ x ∈ s.data.toList, abcd x = true) (n : Nat) (b : Bool) :
    ((facW s n).map fun f => (nbW s f b).size).sum = (facW s (n + 1)).length := by
  have h := sum_cls (nbF n b) (bsL (facW s n)) (asc_nodup (facW_asc s n)) (bsL (facW s (n + 1))) fun x hx => by
    obtain ⟨h1, h2⟩ := fac_infL.1 hx
    exact fac_infL.2 ⟨nbF_len b h1, (nbF_inf b).trans h2⟩
  rw [bsL_len] at h
  rw [← h]
  unfold bsL
  rw [List.map_map]
  refine congrArg List.sum (List.map_congr_left fun f hf => ?_)
  rw [nbW_size]
  exact nb_count hs b (by rw [← size_len]; exact (fac_inf.1 hf).1)
/-- a part of a row's sum -/
def sumN (F : ByteArray → Nat) (L : List ByteArray) : Nat := (L.map F).sum
theorem sumN_take {F : ByteArray → Nat} {L : List ByteArray} {k : Nat} {x : ByteArray} (h : L[k]? = some x) : sumN F (L.take (k + 1)) = sumN F (L.take k) + F x := by
  obtain ⟨h1, h2⟩ := List.getElem?_eq_some_iff.1 h
  unfold sumN
  rw [List.take_succ_eq_append_getElem h1, h2, List.map_append, List.sum_append]; simp
theorem sumN_le {F : ByteArray → Nat} {m : Nat} (h : ∀ x, F x ≤ m) : ∀ L : List ByteArray, sumN F L ≤ m * L.length
  | [] => by simp [sumN]
  | x :: L => by
    have h1 := sumN_le h L
    have h2 := h x
    unfold sumN at h1 ⊢
    rw [List.map_cons, List.sum_cons, List.length_cons, Nat.mul_succ]; omega
/-- the parts with more than one such letter -/
def spP (s : ByteArray) (b : Bool) (f : ByteArray) : Bool := decide (1 < (nbW s f b).size)
def spW (s : ByteArray) (n : Nat) (b : Bool) : List ByteArray := (facW s n).filter (spP s b)
theorem spW_len (s : ByteArray) (n : Nat) (b : Bool) : (spW s n b).length ≤ s.size + 1 := by
  have h1 := List.length_filter_le (spP s b) (facW s n)
  have h2 := facW_len s n
  unfold spW; omega
theorem spW_mem {s : ByteArray} {n : Nat} {b : Bool} {f : ByteArray} (h : f ∈ facW s n) : memB (spW s n b) f = spP s b f := by
  rw [Bool.eq_iff_iff, memB_iff]
  unfold spW
  rw [List.mem_filter]
  exact ⟨fun h => h.2, fun h2 => ⟨h, h2⟩⟩
/-- the graph -/
def grW (s : ByteArray) (n : Nat) : List (Int × Int) := (facW s (n + 1)).map fun x => (((srIx (facW s n) (x.extract 0 n) : Nat) : Int), ((srIx (facW s n) (x.extract 1 x.size) : Nat) : Int))
theorem fac_init {s x : ByteArray} {n : Nat} (h : x ∈ facW s (n + 1)) : x.extract 0 n ∈ facW s n ∧ x.extract 1 x.size ∈ facW s n := by
  obtain ⟨h1, h2⟩ := fac_inf.1 h
  refine ⟨fac_inf.2 ⟨by rw [ext_size x 0 n (by omega) (by omega)]; omega, ?_⟩, fac_inf.2 ⟨by rw [ext_size x 1 x.size (by omega) (by omega)]; omega, ?_⟩⟩
  · rw [ext_data]; exact ((List.take_prefix _ _).isInfix.trans (List.drop_suffix _ _).isInfix).trans h2
  · rw [ext_data]; exact ((List.take_prefix _ _).isInfix.trans (List.drop_suffix _ _).isInfix).trans h2
/-- how many parts -/
theorem fac_le (s : ByteArray) (n : Nat) : (facW s n).length ≤ s.size + 1 - n := by
  have h1 := uniqS_len (facL s n)
  have h2 := facL_len s n
  unfold facW; omega
theorem fac_rev (s : ByteArray) (n : Nat) : (facW (rev s) n).length = (facW s n).length := by
  have key : ∀ t : ByteArray, (facW (rev t) n).length ≤ (facW t n).length := by
    intro t
    have h1 : ((bsL (facW (rev t) n)).map List.reverse).Nodup := by
      rw [List.nodup_iff_pairwise_ne, List.pairwise_map]
      exact (List.nodup_iff_pairwise_ne.1 (asc_nodup (facW_asc (rev t) n))).imp fun hab e => hab (List.reverse_inj.1 e)
    have := nodup_le (b := bsL (facW t n)) h1 fun y hy => by
      obtain ⟨x, hx, rfl⟩ := List.mem_map.1 hy
      obtain ⟨h2, h3⟩ := fac_infL.1 hx
      rw [rev_data] at h3
      refine fac_infL.2 ⟨by rw [List.length_reverse]; exact h2, ?_⟩
      have := List.reverse_infix.2 h3
      rw [List.reverse_reverse] at this; exact this
    rw [List.length_map, bsL_len, bsL_len] at this; exact this
  have h1 := key s
  have h2 := key (rev s)
  have e : rev (rev s) = s := str_inj (by rw [rev_data, rev_data, List.reverse_reverse])
  rw [e] at h2
  omega
theorem fac_some {s : ByteArray} {n : Nat} (h : n ≤ s.size) : 1 ≤ (facW s n).length := by
  have : s.extract 0 (0 + n) ∈ facW s n := facW_mem.2 ⟨0, by omega, rfl⟩
  exact List.length_pos_of_mem this
theorem fac_no {s : ByteArray} {n : Nat} (h : s.size < n) : facW s n = [] := by
  refine List.eq_nil_of_length_eq_zero ?_
  have := fac_le s n; omega
/-- all parts -/
def allF (s : ByteArray) : Nat → Nat
  | 0 => 0
  | k + 1 => allF s k + (facW s (k + 1)).length
theorem allF_le (s : ByteArray) : ∀ k, k ≤ s.size → 2 * allF s k ≤ k * (2 * s.size + 1 - k)
  | 0, _ => by simp [allF]
  | k + 1, h => by
    have ih := allF_le s k (by omega)
    have h1 := fac_le s (k + 1)
    obtain ⟨d, hd⟩ : ∃ d, s.size = k + 1 + d := ⟨s.size - (k + 1), by omega⟩
    rw [hd] at ih h1 ⊢
    rw [show 2 * (k + 1 + d) + 1 - k = k + 2 * d + 3 by omega] at ih
    rw [show 2 * (k + 1 + d) + 1 - (k + 1) = k + 2 * d + 2 by omega]
    unfold allF
    have e1 : k * (k + 2 * d + 3) = k * k + 2 * (k * d) + 3 * k := by rw [Nat.mul_add, Nat.mul_add, Nat.mul_left_comm]; omega
    have e2 : (k + 1) * (k + 2 * d + 2) = k * k + 2 * (k * d) + 3 * k + 2 * d + 2 := by rw [Nat.succ_mul, Nat.mul_add, Nat.mul_add, Nat.mul_left_comm]; omega
    rw [e2]; rw [e1] at ih; omega
theorem allF_half (s : ByteArray) : allF s s.size ≤ s.size * (s.size + 1) / 2 := by
  have := allF_le s s.size (Nat.le_refl _)
  rw [show 2 * s.size + 1 - s.size = s.size + 1 by omega] at this
  omega
theorem allF_bd (s : ByteArray) : ∀ k, k ≤ s.size → allF s k ≤ k * (s.size + 1)
  | 0, _ => by simp [allF]
  | k + 1, h => by
    have ih := allF_bd s k (by omega)
    have h1 := fac_le s (k + 1)
    unfold allF
    rw [Nat.succ_mul]; omega
/-! the reach -/
def OccL (s f : ByteArray) (p : Nat) : Prop := p + f.size ≤ s.size ∧ f = s.extract p (p + f.size)
theorem occ_L {s f : ByteArray} {p : Nat} (h : p + f.size ≤ s.size) : Lib.occAt s.data.toList f.data.toList p = true ↔ f = s.extract p (p + f.size) := by
  rw [← occ_eq s f p h, beq_iff_eq, Lib.toList_data, Lib.toList_data]
  exact ⟨fun e => (str_inj e).symm, fun e => by rw [← e]⟩
theorem plc_mem {s f : ByteArray} {x : Int} : x ∈ plcW s f ↔ ∃ p : Nat, x = (p : Int) ∧ OccL s f p := by
  unfold plcW
  rw [sel_mem]
  constructor
  · rintro ⟨p, rfl, _, h2, h3⟩
    exact ⟨p, rfl, by omega, (occ_L (by omega)).1 h3⟩
  · rintro ⟨p, rfl, h1, h2⟩
    exact ⟨p, rfl, by omega, by omega, (occ_L h1).2 h2⟩
theorem plc_asc (s f : ByteArray) : Asc (plcW s f) := sel_asc _ _ _
theorem plc_some {s f : ByteArray} {n : Nat} (h : f ∈ facW s n) : 1 ≤ (plcW s f).length := by
  obtain ⟨h1, h2⟩ := fac_inf.1 h
  obtain ⟨i, h3, h4⟩ := inf_ext.1 h2
  exact List.length_pos_of_mem (plc_mem.2 ⟨i, rfl, h3, h4⟩)
/-- every window of r letters meets the part -/
def Met (s f : ByteArray) (r : Int) : Prop := ∀ i : Nat, (i : Int) + r ≤ (s.size : Int) → ∃ p, i ≤ p ∧ ((p + f.size : Nat) : Int) ≤ (i : Int) + r ∧ OccL s f p
theorem met_of {s f : ByteArray} {r : Int} (h0 : 1 ≤ (plcW s f).length) (h1 : gAt (plcW s f) 0 + (f.size : Int) ≤ r) (h2 : (s.size : Int) - gAt (plcW s f) ((plcW s f).length - 1) ≤ r)
    (h3 : ∀ j, j + 1 < (plcW s f).length → gAt (plcW s f) (j + 1) - gAt (plcW s f) j + (f.size : Int) - 1 ≤ r) : Met s f r := by
  intro i hi
  have key : ∀ m, m ≤ (plcW s f).length → (∃ j, j < m ∧ (i : Int) ≤ gAt (plcW s f) j ∧ gAt (plcW s f) j + (f.size : Int) ≤ (i : Int) + r) ∨ (∀ j, j < m → gAt (plcW s f) j < (i : Int)) := by
    intro m
    induction m with
    | zero => intro _; exact .inr fun j hj => by omega
    | succ m ih =>
      intro hm
      rcases ih (by omega) with ⟨j, hj, h⟩ | h
      · exact .inl ⟨j, by omega, h⟩
      · by_cases hlt : gAt (plcW s f) m < (i : Int)
        · refine .inr fun j hj => ?_
          rcases Nat.lt_succ_iff_lt_or_eq.1 hj with hj | rfl
          · exact h j hj
          · exact hlt
        · refine .inl ⟨m, by omega, by omega, ?_⟩
          rcases Nat.eq_zero_or_pos m with rfl | hp
          · omega
          · obtain ⟨t, rfl⟩ : ∃ t, m = t + 1 := ⟨m - 1, by omega⟩
            have := h t (by omega)
            have := h3 t (by omega)
            omega
  rcases key _ (Nat.le_refl _) with ⟨j, hj, h4, h5⟩ | h
  · obtain ⟨p, hp, ho⟩ := plc_mem.1 (gAt_mem hj)
    rw [hp] at h4 h5
    exact ⟨p, by omega, by omega, ho⟩
  · have := h ((plcW s f).length - 1) (by omega)
    omega
theorem met_win {s : ByteArray} {n r i : Nat} (h : ∀ f ∈ facW s n, Met s f (r : Int)) (hi : i + r ≤ s.size) : facW (s.extract i (i + r)) n = facW s n := by
  refine ascS_ext (facW_asc _ _) (facW_asc _ _) fun x => ?_
  have hsub : (s.extract i (i + r)).data.toList <:+: s.data.toList := by rw [ext_data]; exact (List.take_prefix _ _).isInfix.trans (List.drop_suffix _ _).isInfix
  constructor
  · intro hx
    obtain ⟨h1, h2⟩ := fac_inf.1 hx
    exact fac_inf.2 ⟨h1, h2.trans hsub⟩
  · intro hx
    obtain ⟨h1, _⟩ := fac_inf.1 hx
    obtain ⟨p, h3, h4, h5, h6⟩ := h x hx i (by omega)
    have hz := ext_size s i (i + r) hi (by omega)
    refine fac_inf.2 ⟨h1, inf_ext.2 ⟨p - i, by omega, str_inj ?_⟩⟩
    rw [ext_data, ext_data]
    conv => lhs; rw [h6]
    rw [ext_data, List.drop_take, List.take_take, List.drop_drop, show i + (p - i) = p by omega]
    congr 1
    omega
/-- what the reach says -/
structure Rch (s : ByteArray) (n : Nat) (r : Nat) : Prop where
  none : facW s n = [] → r = 0
  some : facW s n ≠ [] → 1 ≤ r
  met : ∀ f ∈ facW s n, Met s f (r : Int)
  bd : r ≤ 3000
theorem met_mono {s f : ByteArray} {r q : Int} (h : Met s f r) (hq : r ≤ q) (hr : 0 ≤ r) : Met s f q := by
  intro i hi
  obtain ⟨p, h1, h2, h3⟩ := h i (by omega)
  exact ⟨p, h1, by omega, h3⟩
end Go.Proofs.Ytlmciomoimfajaa
