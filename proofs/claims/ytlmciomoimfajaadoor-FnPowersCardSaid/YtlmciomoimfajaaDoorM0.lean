/- Rows that a call owns: read, kept behind later calls; contracts of eqIntS, markIntS, heldIntS of the laws. Conditions: short rows. -/
import Derived.Test.YtlmciomoimfajaaDoorB0
import Derived.Deep.QuietTactic
import Derived.BigQuiet
namespace Go.Proofs.YtlmciomoimfajaaDoor
open Go.RowKit
set_option linter.unusedVariables false

theorem own_below {w w' : World} {B : Nat} {e : TypeId} {sz : Nat} {v : Value} {n : Nat} {xs : List Value} (h : w.ownsRow B e sz v n xs) (hb : Below w.heap.size w w') : w'.ownsRow B e sz v n xs := by
  refine h.kept (row := none) ⟨hb.os, hb.tape, hb.output, hb.size, fun k hk _ => hb.block k hk⟩ ?_
  cases v.ownBlock with
  | none => exact .inl rfl
  | some g => exact .inr (by simp)
theorem own_other {w w' : World} {B B' : Nat} {e : TypeId} {sz : Nat} {v u : Value} {n : Nat} {xs : List Value} {e' : TypeId} {sz' n' : Nat} {xs' : List Value} {w0 : World}
    (h : w.ownsRow B e sz v n xs) (h0 : w0.ownsRow B e sz v n xs) (h0s : w0.heap.size ≤ B') (hu : w.ownsRow B' e' sz' u n' xs') (hg : w.grownBy w' u.ownBlock) : w'.ownsRow B e sz v n xs := by
  refine h.kept hg ?_
  cases hv : v.ownBlock with
  | none => exact .inl rfl
  | some g =>
    refine .inr fun e => ?_
    have h1 := (h0.lt g hv).2
    have h2 := (hu.lt g e.symm).1
    omega
theorem below_of_grown {w w' : World} {B : Nat} {e : TypeId} {sz : Nat} {v : Value} {n : Nat} {xs : List Value} (h : w.ownsRow B e sz v n xs) (hg : w.grownBy w' v.ownBlock) {A : Nat} (hA : A ≤ B) (hs : A ≤ w.heap.size) : Below A w w' :=
  (Below.refl A w).grown hg hs fun k hk => Nat.le_trans hA (h.lt k hk).1

/-- a slice of numbers that can be read -/
def RdI (w : World) (v : Value) (l : List Int) : Prop :=
  (v = .slice none 0 0 ∧ l = []) ∨ ∃ g cap, v = .slice (some ⟨g, 0, none⟩) l.length cap ∧ l.length ≤ cap ∧ ∀ j x, l[j]? = some x → w.cell? ⟨g, j, none⟩ = some (.int .i64 x)
theorem OwnI.rd {w : World} {B : Nat} {v : Value} {l : List Int} (h : OwnI w B v l) : RdI w v l := by
  rcases h.2 with ⟨rfl, h0⟩ | ⟨g, cap, cur, rfl, hb, hg, hnc, hcm, hcs, htake⟩
  · exact .inl ⟨rfl, List.eq_nil_of_length_eq_zero h0⟩
  · refine .inr ⟨g, cap, rfl, hnc, fun j x hj => ?_⟩
    have hjl : j < l.length := (List.getElem?_eq_some_iff.1 hj).1
    have hc := World.ownsRow.cellAt (h : w.ownsRow B 3 1 _ _ _) j (by omega)
    rw [hc]; simp [iv, hj]
theorem RdI.drewN {w : World} {v : Value} {l : List Int} (h : RdI w v l) (d : Nat) : RdI (w.drewN d) v l := h
theorem RdI.below {w w' : World} {v : Value} {l : List Int} (h : RdI w v l) (hb : Below w.heap.size w w') : RdI w' v l := by
  rcases h with h | ⟨g, cap, rfl, hc, h⟩
  · exact .inl h
  · refine .inr ⟨g, cap, rfl, hc, fun j x hj => ?_⟩
    have := h j x hj
    rw [hb.cell (p := ⟨g, j, none⟩) (World.block_lt_of_cell? w _ this)]; exact this

def sameTo (a b : List Int) (k : Nat) : Prop := ∀ j, j < k → a[j]? = b[j]?
theorem same_end {a b : List Int} (hl : a.length = b.length) (h : sameTo a b a.length) : a = b := by
  apply List.ext_getElem?
  intro j
  by_cases hj : j < a.length
  · exact h j hj
  · rw [List.getElem?_eq_none (by omega), List.getElem?_eq_none (by omega)]
theorem same_succ {a b : List Int} {k : Nat} {x y : Int} (h : sameTo a b k) (ha : a[k]? = some x) (hb : b[k]? = some y) (he : x = y) : sameTo a b (k + 1) := by
  intro j hj
  rcases Nat.lt_succ_iff_lt_or_eq.1 hj with hj | rfl
  · exact h j hj
  · rw [ha, hb, he]
theorem same_no {a b : List Int} {k : Nat} {x y : Int} (ha : a[k]? = some x) (hb : b[k]? = some y) (he : ¬ x = y) : a ≠ b := by
  rintro rfl
  rw [ha] at hb
  exact he (Option.some.inj hb)

/-- the numbers m, m + 1, .. -/
def iota (m n : Nat) : List Int := (List.range n).map fun j => ((m + j : Nat) : Int)
theorem iota_len (m n : Nat) : (iota m n).length = n := by simp [iota]
theorem iota_get {m n k : Nat} (h : k < n) : (iota m n)[k]? = some ((m + k : Nat) : Int) := by simp [iota, h]
/-- what a marked row holds behind k rounds -/
def markRow (m : Nat) (l : List Int) (k : Nat) : List Int := iota m k ++ l.drop k
theorem markRow_len (m : Nat) (l : List Int) (k : Nat) (h : k ≤ l.length) : (markRow m l k).length = l.length := by simp [markRow, iota_len]; omega
theorem markRow_zero (m : Nat) (l : List Int) : markRow m l 0 = l := by simp [markRow, iota]
theorem markRow_end (m : Nat) (l : List Int) : markRow m l l.length = iota m l.length := by simp [markRow]
theorem markRow_step (m : Nat) (l : List Int) (k : Nat) (h : k < l.length) : (markRow m l k).set k ((m + k : Nat) : Int) = markRow m l (k + 1) := by
  unfold markRow
  rw [List.drop_eq_getElem_cons h, List.set_append_right _ _ (by rw [iota_len]; exact Nat.le_refl _), iota_len, Nat.sub_self, List.set_cons_zero]
  simp [iota, List.range_succ]
theorem iv_set (l : List Int) (j : Nat) (x : Int) : (iv l).set j (.int .i64 x) = iv (l.set j x) := by simp [iv, List.map_set]
theorem mark_cell {w : World} {B g cap m : Nat} {l : List Int} {k : Nat} (hk : k < l.length) (h : OwnI w B (.slice (some ⟨g, 0, none⟩) l.length cap) (markRow m l k)) :
    (∃ x, w.cell? ⟨g, k, none⟩ = some x) ∧ w.frozen? ⟨g, k, none⟩ = false := by
  have hl := markRow_len m l k (by omega)
  unfold OwnI at h
  rw [hl] at h
  refine ⟨?_, h.frozenAt _⟩
  have hc := h.cellAt k (by omega)
  have hlt : k < (iv (markRow m l k)).length := by rw [iv_len, hl]; exact hk
  exact ⟨_, hc.trans (List.getElem?_eq_getElem hlt)⟩
theorem mark_step {w : World} {B g cap m : Nat} {l : List Int} {k : Nat} (hk : k < l.length) (h : OwnI w B (.slice (some ⟨g, 0, none⟩) l.length cap) (markRow m l k)) (x : Int) (hx : x = ((m + k : Nat) : Int)) :
    OwnI (w.setCell ⟨g, k, none⟩ (.int .i64 x)) B (.slice (some ⟨g, 0, none⟩) l.length cap) (markRow m l (k + 1)) ∧ w.grownBy (w.setCell ⟨g, k, none⟩ (.int .i64 x)) (some g) := by
  have hl := markRow_len m l k (by omega)
  have hl' := markRow_len m l (k + 1) (by omega)
  unfold OwnI at h ⊢
  rw [hl] at h
  rw [hl']
  have := h.stored k (.int .i64 x)
  rw [iv_set, hx, markRow_step m l k hk] at this
  rw [hx]
  exact this
theorem grown_trans {w w1 w2 : World} {row : Option Nat} (h : w.grownBy w1 row) (k : w1.grownBy w2 row) : w.grownBy w2 row :=
  ⟨k.os.trans h.os, k.tape.trans h.tape, k.output.trans h.output, Nat.le_trans h.size k.size, fun i hi hne => (k.block i (Nat.lt_of_lt_of_le hi h.size) hne).trans (h.block i hi hne)⟩

end Go.Proofs.YtlmciomoimfajaaDoor
