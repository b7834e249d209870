/- Plain lemmas: sorted rows of strings without repeats are told by their members; a string put into an ascending row. No program in sight. -/
import Derived.Test.YtlmciomoimfajaaDoorM2
import Derived.Lib.SlicesCompact
import Derived.Sort.Walk0
import Derived.Sort.EncStr
namespace Go.Proofs.YtlmciomoimfajaaDoor
open Go.RowKit
set_option linter.unusedVariables false

/-- strictly ascending rows of byte lists, of strings -/
def AscL (l : List (List UInt8)) : Prop := l.Pairwise (· < ·)
def bsL (l : List ByteArray) : List (List UInt8) := l.map fun s => s.data.toList
def AscS (l : List ByteArray) : Prop := AscL (bsL l)
theorem bsL_len (l : List ByteArray) : (bsL l).length = l.length := by simp [bsL]
theorem bsL_st (l : List (List UInt8)) : bsL (l.map St) = l := by
  unfold bsL; rw [List.map_map]; exact (List.map_congr_left fun a _ => St_data a).trans (List.map_id _)
theorem st_bsL (l : List ByteArray) : (bsL l).map St = l := by
  unfold bsL; rw [List.map_map]; exact (List.map_congr_left fun a _ => St_of a).trans (List.map_id _)
theorem sv_enc (l : List ByteArray) : sv l = (bsL l).map encStr := by
  unfold sv bsL; rw [List.map_map]; exact List.map_congr_left fun a _ => by show Value.string a = Value.string (St a.data.toList); rw [St_of]
theorem enc_sv (l : List (List UInt8)) : l.map encStr = sv (l.map St) := by unfold sv; rw [List.map_map]; rfl
theorem mem_bsL {l : List ByteArray} {x : ByteArray} : x.data.toList ∈ bsL l ↔ x ∈ l := by
  unfold bsL
  rw [List.mem_map]
  exact ⟨fun ⟨y, h, e⟩ => (str_inj e : y = x) ▸ h, fun h => ⟨x, h, rfl⟩⟩
theorem mem_st {l : List (List UInt8)} {x : ByteArray} : x ∈ l.map St ↔ x.data.toList ∈ l := by
  have := mem_bsL (l := l.map St) (x := x); rw [bsL_st] at this; exact this.symm

theorem ll_irr (x : List UInt8) : ¬ x < x := List.lt_irrefl x
theorem ll_le {x y : List UInt8} : x ≤ y ↔ ¬ y < x := List.not_lt.symm
theorem ll_tr {x y z : List UInt8} (h1 : x < y) (h2 : y < z) : x < z := List.lt_trans h1 h2
theorem ll_eq {x y : List UInt8} (h1 : x ≤ y) (h2 : y ≤ x) : x = y := List.le_antisymm h1 h2
theorem ll_lt {x y : List UInt8} (h1 : x ≤ y) (h2 : x ≠ y) : x < y := by
  rcases Classical.em (x < y) with h | h
  · exact h
  · exact absurd (ll_eq h1 (ll_le.2 h)) h2

theorem ascL_ext : ∀ {a b : List (List UInt8)}, AscL a → AscL b → (∀ x, x ∈ a ↔ x ∈ b) → a = b
  | [], [], _, _, _ => rfl
  | [], y :: b, _, _, h => by have := (h y).2 (by simp); simp at this
  | x :: a, [], _, _, h => by have := (h x).1 (by simp); simp at this
  | x :: a, y :: b, ha, hb, h => by
    have ha' := List.pairwise_cons.1 ha
    have hb' := List.pairwise_cons.1 hb
    have hxy : x = y := by
      have h1 := (h x).1 (by simp)
      have h2 := (h y).2 (by simp)
      rcases List.mem_cons.1 h1 with h1 | h1
      · exact h1
      · rcases List.mem_cons.1 h2 with h2 | h2
        · exact h2.symm
        · exact absurd (ll_tr (hb'.1 x h1) (ha'.1 y h2)) (ll_irr y)
    subst hxy
    congr 1
    refine ascL_ext ha'.2 hb'.2 fun z => ?_
    constructor
    · intro hz
      rcases List.mem_cons.1 ((h z).1 (by simp [hz])) with rfl | h1
      · exact absurd (ha'.1 z hz) (ll_irr z)
      · exact h1
    · intro hz
      rcases List.mem_cons.1 ((h z).2 (by simp [hz])) with rfl | h1
      · exact absurd (hb'.1 z hz) (ll_irr z)
      · exact h1
theorem ascS_ext {a b : List ByteArray} (ha : AscS a) (hb : AscS b) (h : ∀ x, x ∈ a ↔ x ∈ b) : a = b := by
  have := ascL_ext ha hb fun x => by
    have := h (St x)
    rw [← mem_bsL, ← mem_bsL, St_data] at this; exact this
  rw [← st_bsL a, this, st_bsL]
theorem getL_bang (zs : List (List UInt8)) (j : Nat) (hj : j < zs.length) : zs.toArray[j]! = zs[j] := by simp [hj]
theorem compactL_asc {zs : List (List UInt8)} (hs : zs.Pairwise (· ≤ ·)) : AscL (Lib.compact zs) ∧ ∀ x, x ∈ Lib.compact zs ↔ x ∈ zs := by
  have key : ∀ m, m ≤ zs.length → AscL (Lib.compactUpTo zs.toArray m) ∧ (∀ x, x ∈ Lib.compactUpTo zs.toArray m ↔ x ∈ zs.take m) := by
    intro m
    induction m with
    | zero => intro _; exact ⟨by simp [Lib.compactUpTo, AscL], fun x => by simp [Lib.compactUpTo]⟩
    | succ m ih =>
      intro hm
      obtain ⟨h1, h2⟩ := ih (by omega)
      have hget := getL_bang zs m (by omega)
      rw [Lib.compactUpTo_succ]
      have htk : zs.take (m + 1) = zs.take m ++ [zs[m]] := List.take_succ_eq_append_getElem (by omega)
      by_cases hk : Lib.keeps zs.toArray m = true
      · rw [if_pos hk, hget]
        refine ⟨?_, fun x => by rw [htk, List.mem_append, List.mem_append, h2]⟩
        unfold AscL
        rw [List.pairwise_append]
        refine ⟨h1, by simp, fun x hx y hy => ?_⟩
        simp only [List.mem_singleton] at hy
        subst hy
        obtain ⟨i, hi, rfl⟩ := List.mem_take_iff_getElem.1 ((h2 x).1 hx)
        have him : i < m := by omega
        unfold Lib.keeps at hk
        simp only [decide_eq_true_eq] at hk
        rcases hk with hk | hk
        · omega
        · rw [hget, getL_bang zs (m - 1) (by omega)] at hk
          have hp := List.pairwise_iff_getElem.1 hs
          have e1 := hp (m - 1) m (by omega) (by omega) (by omega)
          have e3 : zs[m - 1] < zs[m] := ll_lt e1 (fun e => hk e.symm)
          rcases Nat.lt_or_ge i (m - 1) with h | h
          · have e2 := hp i (m - 1) (by omega) (by omega) h
            rcases Classical.em (zs[i] = zs[m - 1]) with e | e
            · rw [e]; exact e3
            · exact ll_tr (ll_lt e2 e) e3
          · have : i = m - 1 := by omega
            subst this; exact e3
      · rw [if_neg hk, List.append_nil]
        refine ⟨h1, fun x => ?_⟩
        rw [htk, List.mem_append, h2, List.mem_singleton]
        constructor
        · exact .inl
        · rintro (h | rfl)
          · exact h
          · unfold Lib.keeps at hk
            simp only [decide_eq_true_eq, not_or, Decidable.not_not] at hk
            rw [hget, getL_bang zs (m - 1) (by omega)] at hk
            rw [hk.2]
            exact List.mem_take_iff_getElem.2 ⟨m - 1, by omega, rfl⟩
  obtain ⟨h1, h2⟩ := key zs.length (Nat.le_refl _)
  exact ⟨h1, fun x => by have := h2 x; rw [List.take_length] at this; exact this⟩
def sortL (zs : List (List UInt8)) : List (List UInt8) := zs.mergeSort fun x y => decide (x ≤ y)
theorem sortL_le (zs : List (List UInt8)) : (sortL zs).Pairwise (· ≤ ·) := by
  have := List.pairwise_mergeSort (le := fun x y : List UInt8 => decide (x ≤ y)) (fun a b c h1 h2 => decide_eq_true (List.le_trans (of_decide_eq_true h1) (of_decide_eq_true h2))) (fun a b => by simp only [Bool.or_eq_true, decide_eq_true_eq]; exact List.le_total a b) zs
  exact this.imp fun h => by simpa using h
theorem sortL_mem (zs : List (List UInt8)) (x : List UInt8) : x ∈ sortL zs ↔ x ∈ zs := List.mem_mergeSort
theorem sortL_len (zs : List (List UInt8)) : (sortL zs).length = zs.length := List.length_mergeSort _
def sortS (l : List ByteArray) : List ByteArray := (sortL (bsL l)).map St
def compS (l : List ByteArray) : List ByteArray := (Lib.compact (bsL l)).map St
theorem sortS_len (l : List ByteArray) : (sortS l).length = l.length := by unfold sortS; rw [List.length_map, sortL_len, bsL_len]
/-- what 'sort, then compact' leaves -/
def uniqS (l : List ByteArray) : List ByteArray := compS (sortS l)
theorem uniqS_eq (l : List ByteArray) : uniqS l = (Lib.compact (sortL (bsL l))).map St := by unfold uniqS compS sortS; rw [bsL_st]
theorem uniqS_asc (l : List ByteArray) : AscS (uniqS l) := by rw [uniqS_eq]; unfold AscS; rw [bsL_st]; exact (compactL_asc (sortL_le _)).1
theorem uniqS_mem (l : List ByteArray) (x : ByteArray) : x ∈ uniqS l ↔ x ∈ l := by
  rw [uniqS_eq, mem_st, (compactL_asc (sortL_le _)).2, sortL_mem, mem_bsL]
theorem uniqS_is {zs l : List ByteArray} (hl : AscS l) (h : ∀ x, x ∈ l ↔ x ∈ zs) : uniqS zs = l := ascS_ext (uniqS_asc zs) hl fun x => (uniqS_mem zs x).trans (h x).symm
theorem compactL_len (zs : List (List UInt8)) : (Lib.compact zs).length ≤ zs.length := by
  unfold Lib.compact Lib.compactUpTo
  rw [List.length_map]
  exact Nat.le_trans (List.length_filter_le _ _) (by simp)
theorem compS_len (l : List ByteArray) : (compS l).length ≤ l.length := by
  have := compactL_len (bsL l); rw [bsL_len] at this; unfold compS; rw [List.length_map]; exact this
theorem uniqS_len (l : List ByteArray) : (uniqS l).length ≤ l.length := by
  have := compS_len (sortS l); rw [sortS_len] at this; exact this

/-! a string put into an ascending row -/
def gS (l : List ByteArray) (i : Nat) : ByteArray := l.getD i ByteArray.empty
theorem gS_get {l : List ByteArray} {i : Nat} (h : i < l.length) : l[i]? = some (gS l i) := by
  unfold gS; rw [List.getD_eq_getElem?_getD, List.getElem?_eq_getElem h]; rfl
theorem gS_eq {l : List ByteArray} {i : Nat} (h : i < l.length) : gS l i = l[i] := by
  have := gS_get h; rw [List.getElem?_eq_getElem h] at this; exact (Option.some.inj this).symm
/-- 'x > y' as the code asks it -/
def gtS (x y : ByteArray) : Bool := !(Op.bytesLess x.toList y.toList || x.toList == y.toList)
theorem gtS_iff {x y : ByteArray} : gtS x y = true ↔ y.data.toList < x.data.toList := by
  unfold gtS
  rw [Lib.toList_data, Lib.toList_data, bytesLess_eq, Bool.not_eq_true', Bool.or_eq_false_iff, decide_eq_false_iff_not]
  constructor
  · rintro ⟨h1, h2⟩
    exact ll_lt (ll_le.2 h1) (fun e => by rw [e] at h2; simp at h2)
  · intro h
    refine ⟨fun h' => ll_irr _ (ll_tr h h'), ?_⟩
    simp only [beq_eq_false_iff_ne]
    intro e; rw [e] at h; exact ll_irr _ h
theorem gtS_not {x y : ByteArray} : gtS x y = false ↔ x.data.toList ≤ y.data.toList := by
  rw [ll_le, ← gtS_iff]; cases gtS x y <;> simp
def posKS (l : List ByteArray) (x : ByteArray) : Nat → Nat
  | 0 => 0
  | k + 1 => if gtS (gS l k) x = true then posKS l x k else k + 1
theorem posKS_le (l : List ByteArray) (x : ByteArray) : ∀ k, posKS l x k ≤ k
  | 0 => Nat.le_refl _
  | k + 1 => by have := posKS_le l x k; unfold posKS; split <;> omega
theorem posKS_above (l : List ByteArray) (x : ByteArray) : ∀ k i, posKS l x k ≤ i → i < k → x.data.toList < (gS l i).data.toList
  | 0, i, _, h => by omega
  | k + 1, i, h1, h2 => by
    unfold posKS at h1
    split at h1
    · rename_i hx
      rcases Nat.lt_or_ge i k with h | h
      · exact posKS_above l x k i h1 h
      · rw [show i = k by omega]; exact gtS_iff.1 hx
    · omega
theorem posKS_stop (l : List ByteArray) (x : ByteArray) : ∀ k, 0 < posKS l x k → (gS l (posKS l x k - 1)).data.toList ≤ x.data.toList
  | 0, h => by simp [posKS] at h
  | k + 1, h => by
    unfold posKS at h ⊢
    split
    · rename_i hx; rw [if_pos hx] at h; exact posKS_stop l x k h
    · rename_i hx; rw [Nat.add_sub_cancel]; exact gtS_not.1 (by simpa using hx)
def posS (l : List ByteArray) (x : ByteArray) : Nat := posKS l x l.length
def insS (l : List ByteArray) (x : ByteArray) : List ByteArray := if 0 < posS l x ∧ gS l (posS l x - 1) = x then l else l.take (posS l x) ++ [x] ++ l.drop (posS l x)
theorem insS_len (l : List ByteArray) (x : ByteArray) : (insS l x).length ≤ l.length + 1 := by
  unfold insS; split
  · omega
  · simp; omega
theorem bsL_get (l : List ByteArray) (i : Nat) (h : i < l.length) : (bsL l)[i]'(by rw [bsL_len]; exact h) = l[i].data.toList := by simp [bsL]
theorem insS_asc {l : List ByteArray} {x : ByteArray} (h : AscS l) : AscS (insS l x) ∧ ∀ y, y ∈ insS l x ↔ y ∈ l ∨ y = x := by
  have hk : posS l x ≤ l.length := posKS_le _ _ _
  have hab := posKS_above l x l.length
  have hst := posKS_stop l x l.length
  have hp : ∀ i j (hi : i < l.length) (hj : j < l.length), i < j → l[i].data.toList < l[j].data.toList := fun i j hi hj hij => by
    have := List.pairwise_iff_getElem.1 h i j (by rw [bsL_len]; exact hi) (by rw [bsL_len]; exact hj) hij
    rw [bsL_get, bsL_get] at this; exact this
  unfold insS
  split
  · rename_i hc
    refine ⟨h, fun y => ⟨.inl, ?_⟩⟩
    rintro (hy | rfl)
    · exact hy
    · rw [← hc.2, gS_eq (by omega)]; exact List.getElem_mem _
  · rename_i hc
    obtain ⟨k, hkk⟩ : ∃ k, k = posS l x := ⟨_, rfl⟩
    change ∀ i, posS l x ≤ i → i < l.length → x.data.toList < (gS l i).data.toList at hab
    change 0 < posS l x → (gS l (posS l x - 1)).data.toList ≤ x.data.toList at hst
    rw [← hkk] at hk hab hst hc ⊢
    have hlow : ∀ i (hi : i < l.length), i < k → l[i].data.toList < x.data.toList := by
      intro i hi hik
      have h1 := hst (by omega)
      have h2 : gS l (k - 1) ≠ x := fun e => hc ⟨by omega, e⟩
      rw [gS_eq (by omega)] at h1 h2
      have h3 := ll_lt h1 (fun e => h2 (str_inj e))
      rcases Nat.lt_or_ge i (k - 1) with hlt | hge
      · exact ll_tr (hp i (k - 1) hi (by omega) hlt) h3
      · have : i = k - 1 := by omega
        subst this; exact h3
    have hhigh : ∀ i (hi : i < l.length), k ≤ i → x.data.toList < l[i].data.toList := by
      intro i hi hik
      have := hab i hik hi
      rwa [gS_eq hi] at this
    constructor
    · unfold AscS AscL bsL
      rw [List.map_append, List.map_append, List.pairwise_append, List.pairwise_append]
      have hs1 : (bsL (l.take k)).Pairwise (· < ·) := List.Pairwise.sublist (List.Sublist.map _ (List.take_sublist _ _)) h
      have hs2 : (bsL (l.drop k)).Pairwise (· < ·) := List.Pairwise.sublist (List.Sublist.map _ (List.drop_sublist _ _)) h
      refine ⟨⟨hs1, by simp, fun a ha b hb => ?_⟩, hs2, fun a ha b hb => ?_⟩
      · simp at hb; subst hb
        obtain ⟨a', ha', rfl⟩ := List.mem_map.1 ha
        obtain ⟨i, hi, rfl⟩ := List.mem_take_iff_getElem.1 ha'
        exact hlow i (by omega) (by omega)
      · obtain ⟨b', hb', rfl⟩ := List.mem_map.1 hb
        obtain ⟨j, hj, rfl⟩ := List.mem_drop_iff_getElem.1 hb'
        rcases List.mem_append.1 ha with ha | ha
        · obtain ⟨a', ha', rfl⟩ := List.mem_map.1 ha
          obtain ⟨i, hi, rfl⟩ := List.mem_take_iff_getElem.1 ha'
          exact hp i (k + j) (by omega) (by omega) (by omega)
        · simp at ha; subst ha
          exact hhigh (k + j) (by omega) (by omega)
    · intro y
      simp only [List.mem_append, List.mem_singleton]
      have e : y ∈ l ↔ y ∈ l.take k ∨ y ∈ l.drop k := by rw [← List.mem_append, List.take_append_drop]
      rw [e]
      constructor
      · rintro ((h | h) | h)
        · exact .inl (.inl h)
        · exact .inr h
        · exact .inl (.inr h)
      · rintro ((h | h) | h)
        · exact .inl (.inl h)
        · exact .inr h
        · exact .inl (.inr h)
/-- the strings of a row, put in one by one -/
def insAll : List ByteArray → List ByteArray → List ByteArray
  | l, [] => l
  | l, x :: r => insAll (insS l x) r
theorem insAll_asc : ∀ {l : List ByteArray} (r : List ByteArray), AscS l → AscS (insAll l r) ∧ ∀ y, y ∈ insAll l r ↔ y ∈ l ∨ y ∈ r
  | l, [], h => ⟨h, fun y => by simp [insAll]⟩
  | l, x :: r, h => by
    obtain ⟨h1, h2⟩ := insS_asc (x := x) h
    obtain ⟨h3, h4⟩ := insAll_asc r h1
    refine ⟨h3, fun y => ?_⟩
    show y ∈ insAll (insS l x) r ↔ _
    rw [h4, h2, List.mem_cons, or_assoc]
theorem insAll_snoc : ∀ (l r : List ByteArray) (x : ByteArray), insAll l (r ++ [x]) = insS (insAll l r) x
  | l, [], x => rfl
  | l, y :: r, x => insAll_snoc (insS l y) r x
theorem insAll_len : ∀ (l r : List ByteArray), (insAll l r).length ≤ l.length + r.length
  | l, [] => by simp [insAll]
  | l, x :: r => by have h1 := insAll_len (insS l x) r; have h2 := insS_len l x; show (insAll (insS l x) r).length ≤ _; simp only [List.length_cons]; omega
theorem ascS_nil : AscS [] := by simp [AscS, AscL, bsL]
theorem ascS_one (x : ByteArray) : AscS [x] := by simp [AscS, AscL, bsL]
theorem uniqS_ins (zs : List ByteArray) : uniqS zs = insAll [] zs := uniqS_is (insAll_asc zs ascS_nil).1 fun x => by rw [(insAll_asc zs ascS_nil).2]; simp
end Go.Proofs.YtlmciomoimfajaaDoor
