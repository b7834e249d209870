/- Rows of strings: read; contracts of eqStringS, markText, markStringS, heldStringS of the laws; what a function that makes a slice of strings leaves (RetS). Conditions: short rows. -/
import Derived.Test.YtlmciomoimfajaaDoorM0
import Derived.Lib.QuietBelow
namespace Go.Proofs.YtlmciomoimfajaaDoor
open Go.RowKit Go.Sort
set_option linter.unusedVariables false

/-- the call returns a slice that it made (or nil), which holds L -/
def RetS (L : List ByteArray) (w : World) (e : Ending) (w' : World) : Prop := ∃ v, e = .returned v ∧ OwnS w' w.heap.size v L ∧ Below w.heap.size w w'
theorem retS_nil (w w' : World) (L : List ByteArray) (h : L = []) (hb : Below w.heap.size w w') : RetS L w (.returned (.slice none 0 0)) w' :=
  ⟨_, rfl, by rw [h]; exact World.ownsRow_nil _ _ _ _, hb⟩
theorem retS_mk {w w' : World} {v : Value} {l L : List ByteArray} (hown : OwnS w' w.heap.size v l) (h : l = L) (hb : Below w.heap.size w w') : RetS L w (.returned v) w' := ⟨_, rfl, by rw [← h]; exact hown, hb⟩

/-- a slice of strings that can be read -/
def RdS (w : World) (v : Value) (l : List ByteArray) : Prop :=
  (v = .slice none 0 0 ∧ l = []) ∨ ∃ g cap, v = .slice (some ⟨g, 0, none⟩) l.length cap ∧ l.length ≤ cap ∧ ∀ j x, l[j]? = some x → w.cell? ⟨g, j, none⟩ = some (.string x)
theorem OwnS.rd {w : World} {B : Nat} {v : Value} {l : List ByteArray} (h : OwnS w B v l) : RdS w v l := by
  rcases h.2 with ⟨rfl, h0⟩ | ⟨g, cap, cur, rfl, hb, hg, hnc, hcm, hcs, htake⟩
  · exact .inl ⟨rfl, List.eq_nil_of_length_eq_zero h0⟩
  · refine .inr ⟨g, cap, rfl, hnc, fun j x hj => ?_⟩
    have hjl : j < l.length := (List.getElem?_eq_some_iff.1 hj).1
    have hc := World.ownsRow.cellAt (h : w.ownsRow B 9 1 _ _ _) j (by omega)
    rw [hc]; simp [sv, hj]
theorem RdS.below {w w' : World} {v : Value} {l : List ByteArray} (h : RdS w v l) (hb : Below w.heap.size w w') : RdS w' v l := by
  rcases h with h | ⟨g, cap, rfl, hc, h⟩
  · exact .inl h
  · refine .inr ⟨g, cap, rfl, hc, fun j x hj => ?_⟩
    have := h j x hj
    rw [hb.cell (p := ⟨g, j, none⟩) (World.block_lt_of_cell? w _ this)]; exact this

def sameToS (a b : List ByteArray) (k : Nat) : Prop := ∀ j, j < k → a[j]? = b[j]?
theorem sameS_end {a b : List ByteArray} (hl : a.length = b.length) (h : sameToS a b a.length) : a = b := by
  apply List.ext_getElem?
  intro j
  by_cases hj : j < a.length
  · exact h j hj
  · rw [List.getElem?_eq_none (by omega), List.getElem?_eq_none (by omega)]
theorem sameS_succ {a b : List ByteArray} {k : Nat} {x y : ByteArray} (h : sameToS a b k) (ha : a[k]? = some x) (hb : b[k]? = some y) (he : x = y) : sameToS a b (k + 1) := by
  intro j hj
  rcases Nat.lt_succ_iff_lt_or_eq.1 hj with hj | rfl
  · exact h j hj
  · rw [ha, hb, he]
theorem sameS_no {a b : List ByteArray} {k : Nat} {x y : ByteArray} (ha : a[k]? = some x) (hb : b[k]? = some y) (he : ¬ x = y) : a ≠ b := by
  rintro rfl
  rw [ha] at hb
  exact he (Option.some.inj hb)
theorem str_beq {x y : ByteArray} (h : (x.toList == y.toList) = true) : x = y := by
  rw [Lib.toList_data, Lib.toList_data, beq_iff_eq] at h; exact str_inj h
theorem str_bne {x y : ByteArray} (h : (x.toList == y.toList) = false) : ¬ x = y := by
  rintro rfl
  simp at h

/-- are two rows the same -/
def cBs (a b : List ByteArray) : Bool := decide (a = b)

/-- the mark's digits, ahead of 'acc' -/
def mtGo : Nat → Nat → List UInt8 → List UInt8
  | 0, _, acc => acc
  | f + 1, k, acc => if k = 0 then acc else mtGo f (k / 10) (UInt8.ofNat (48 + k % 10) :: acc)
def mtS (k : Nat) : ByteArray := if k = 0 then ⟨#[109, 48]⟩ else St (109 :: mtGo (k + 1) k [])
theorem mt_zero (f : Nat) (acc : List UInt8) : mtGo f 0 acc = acc := by cases f <;> simp [mtGo]
theorem mt_step {f k : Nat} {acc : List UInt8} (hf : k < f) (hk : k ≠ 0) : mtGo f k acc = mtGo (f - 1) (k / 10) (UInt8.ofNat (48 + k % 10) :: acc) := by
  obtain ⟨g, rfl⟩ : ∃ g, f = g + 1 := ⟨f - 1, by omega⟩
  rw [mtGo, if_neg hk]; rfl

/-- the marks m, m + 1, .. -/
def mkS (m n : Nat) : List ByteArray := (List.range n).map fun j => mtS (m + j)
theorem mkS_len (m n : Nat) : (mkS m n).length = n := by simp [mkS]
theorem mkS_get {m n k : Nat} (h : k < n) : (mkS m n)[k]? = some (mtS (m + k)) := by simp [mkS, h]
def markRowS (m : Nat) (l : List ByteArray) (k : Nat) : List ByteArray := mkS m k ++ l.drop k
theorem markRowS_len (m : Nat) (l : List ByteArray) (k : Nat) (h : k ≤ l.length) : (markRowS m l k).length = l.length := by simp [markRowS, mkS_len]; omega
theorem markRowS_zero (m : Nat) (l : List ByteArray) : markRowS m l 0 = l := by simp [markRowS, mkS]
theorem markRowS_end (m : Nat) (l : List ByteArray) : markRowS m l l.length = mkS m l.length := by simp [markRowS]
theorem markRowS_step (m : Nat) (l : List ByteArray) (k : Nat) (h : k < l.length) : (markRowS m l k).set k (mtS (m + k)) = markRowS m l (k + 1) := by
  unfold markRowS
  rw [List.drop_eq_getElem_cons h, List.set_append_right _ _ (by rw [mkS_len]; exact Nat.le_refl _), mkS_len, Nat.sub_self, List.set_cons_zero]
  simp [mkS, List.range_succ]
theorem sv_set (l : List ByteArray) (j : Nat) (x : ByteArray) : (sv l).set j (.string x) = sv (l.set j x) := by simp [sv, List.map_set]
theorem markS_cell {w : World} {B g cap m : Nat} {l : List ByteArray} {k : Nat} (hk : k < l.length) (h : OwnS w B (.slice (some ⟨g, 0, none⟩) l.length cap) (markRowS m l k)) :
    (∃ x, w.cell? ⟨g, k, none⟩ = some x) ∧ w.frozen? ⟨g, k, none⟩ = false := by
  have hl := markRowS_len m l k (by omega)
  unfold OwnS at h
  rw [hl] at h
  refine ⟨?_, h.frozenAt _⟩
  have hc := h.cellAt k (by omega)
  have hlt : k < (sv (markRowS m l k)).length := by rw [sv_len, hl]; exact hk
  exact ⟨_, hc.trans (List.getElem?_eq_getElem hlt)⟩
theorem markS_step {w : World} {B g cap m : Nat} {l : List ByteArray} {k : Nat} (hk : k < l.length) (h : OwnS w B (.slice (some ⟨g, 0, none⟩) l.length cap) (markRowS m l k)) :
    OwnS (w.setCell ⟨g, k, none⟩ (.string (mtS (m + k)))) B (.slice (some ⟨g, 0, none⟩) l.length cap) (markRowS m l (k + 1)) ∧ w.grownBy (w.setCell ⟨g, k, none⟩ (.string (mtS (m + k)))) (some g) := by
  have hl := markRowS_len m l k (by omega)
  have hl' := markRowS_len m l (k + 1) (by omega)
  unfold OwnS at h ⊢
  rw [hl] at h
  rw [hl']
  have := h.stored k (.string (mtS (m + k)))
  rw [sv_set, markRowS_step m l k hk] at this
  exact this
theorem grown_below {w w' : World} {row : Option Nat} (hb : Below w.heap.size w w') : w.grownBy w' row := ⟨hb.os, hb.tape, hb.output, hb.size, fun k hk _ => hb.block k hk⟩

end Go.Proofs.YtlmciomoimfajaaDoor
