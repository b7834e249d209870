/- Contracts of ExtendSquareFree in the program and in the reference, and the walk of its law. Conditions: none beyond the law's own test of the length. -/
import Derived.Test.YtlmciomoimfajaaDoorC4
import Derived.Test.YtlmciomoimfajaaDoorB7
import Derived.Test.YtlmciomoimfajaaDoorM0
namespace Go.Proofs.YtlmciomoimfajaaDoor
open Go.RowKit
set_option linter.unusedVariables false

theorem endGo_iff (l : List UInt8) : ∀ f h, endGo l f h = true ↔ ∃ k, h ≤ k ∧ k < h + f ∧ PowP l (l.length - 2 * k) (2 * k) k
  | 0, h => by simp only [endGo]; exact ⟨fun e => (by cases e), fun ⟨k, a, b, _⟩ => (by omega)⟩
  | f + 1, h => by
    unfold endGo
    by_cases hp : powB l (l.length - 2 * h) (2 * h) h = true
    · rw [if_pos hp]; exact ⟨fun _ => ⟨h, Nat.le_refl _, by omega, powB_iff.1 hp⟩, fun _ => rfl⟩
    · rw [if_neg hp, endGo_iff l f (h + 1)]
      constructor
      · rintro ⟨k, a, b, c⟩; exact ⟨k, by omega, by omega, c⟩
      · rintro ⟨k, a, b, c⟩
        rcases Nat.eq_or_lt_of_le a with rfl | a
        · exact absurd (powB_iff.2 c) hp
        · exact ⟨k, a, by omega, c⟩
theorem endSq_iff (l : List UInt8) : endSq l = true ↔ ∃ k, 1 ≤ k ∧ 2 * k ≤ l.length ∧ PowP l (l.length - 2 * k) (2 * k) k := by
  unfold endSq
  rw [endGo_iff]
  constructor
  · rintro ⟨k, a, b, c⟩; exact ⟨k, a, by omega, c⟩
  · rintro ⟨k, a, b, c⟩; exact ⟨k, a, by omega, c⟩
theorem rep_snoc (l : List UInt8) (c : UInt8) : RepP (l ++ [c]) 2 0 ↔ RepP l 2 0 ∨ endSq (l ++ [c]) = true := by
  have hlen : (l ++ [c]).length = l.length + 1 := by simp
  constructor
  · rintro ⟨p, i, hp, hpow⟩
    have h1 := hpow.1
    rw [hlen] at h1
    by_cases hi : i + (2 * p + 0) ≤ l.length
    · refine .inl ⟨p, i, hp, hi, fun j hj => ?_⟩
      have := hpow.2 j hj
      rwa [List.getElem?_append_left (by omega), List.getElem?_append_left (by omega)] at this
    · refine .inr ((endSq_iff _).2 ⟨p, hp, by rw [hlen]; omega, ?_⟩)
      rw [hlen, show l.length + 1 - 2 * p = i by omega]; exact hpow
  · rintro (⟨p, i, hp, hpow⟩ | h)
    · have h1 := hpow.1
      refine ⟨p, i, hp, by rw [hlen]; omega, fun j hj => ?_⟩
      rw [List.getElem?_append_left (by omega), List.getElem?_append_left (by omega)]; exact hpow.2 j hj
    · obtain ⟨k, a, b, c⟩ := (endSq_iff _).1 h
      exact ⟨k, _, a, c⟩
theorem word_snoc {l : List UInt8} {c : UInt8} (h : wordL (l ++ [c]) = true) : wordL l = true :=
  wordL_mk (fun x hx => wordL_all h x (by simp [hx])) (by have := wordL_len h; simp at this; omega)

/-- is it a word without squares -/
noncomputable def sqB (s : ByteArray) : Bool := wordL s.data.toList && !cB (RepP s.data.toList 2 0)
theorem sq_of (s : ByteArray) (k : Nat) (h : sqB s = true) : sqB (snoc s k) = (wordL (snoc s k).data.toList && !endSq (snoc s k).data.toList) := by
  have h1 : (snoc s k).data.toList = s.data.toList ++ [letU k] := rfl
  have h2 : ¬ RepP s.data.toList 2 0 := fun hr => by simp [sqB, cB_true hr] at h
  unfold sqB
  rw [h1]
  congr 2
  cases he : endSq (s.data.toList ++ [letU k])
  · exact cB_false fun hr => by rcases (rep_snoc _ _).1 hr with hr | hr; exact h2 hr; rw [he] at hr; cases hr
  · exact cB_true ((rep_snoc _ _).2 (.inr he))
theorem sq_not (s : ByteArray) (k : Nat) (h : sqB s = false) : sqB (snoc s k) = false := by
  cases hq : sqB (snoc s k) with
  | false => rfl
  | true =>
    unfold sqB at hq h
    simp only [Bool.and_eq_true, Bool.not_eq_true'] at hq
    have hw := word_snoc (c := letU k) hq.1
    have hr : ¬ RepP s.data.toList 2 0 := fun hr => by
      have := cB_true ((rep_snoc s.data.toList (letU k)).2 (.inl hr))
      rw [show s.data.toList ++ [letU k] = (snoc s k).data.toList from rfl, hq.2] at this; cases this
    rw [hw, cB_false hr] at h; cases h
noncomputable def exGo (s : ByteArray) : Nat → Nat → ByteArray
  | 0, _ => St []
  | f + 1, k => if sqB (snoc s k) = true then snoc s k else exGo s f (k + 1)
noncomputable def exW (s : ByteArray) : ByteArray := exGo s 3 0
theorem exGo_hit {s : ByteArray} {k : Nat} (hk : k < 3) (h : sqB (snoc s k) = true) : exGo s (3 - k) k = snoc s k := by
  rw [show 3 - k = (3 - k - 1) + 1 by omega, exGo, if_pos h]
theorem exGo_miss {s : ByteArray} {k : Nat} (hk : k < 3) (h : sqB (snoc s k) = false) : exGo s (3 - k) k = exGo s (3 - (k + 1)) (k + 1) := by
  rw [show 3 - k = (3 - k - 1) + 1 by omega, exGo, if_neg (by rw [h]; decide), show 3 - k - 1 = 3 - (k + 1) by omega]
theorem exW_not {s : ByteArray} (h : sqB s = false) : exW s = St [] := by
  simp only [exW, exGo, sq_not s _ h, Bool.false_eq_true, if_false]

theorem sq_i (s : ByteArray) (w : World) (hs : s.size ≤ 1073741824) :
    Calls Tryd.prog 6 #[.string s] w fun e w' => e = .returned (.bool (sqB s)) ∧ Below w.heap.size w w' := isSquareFree_i s w hs
def abcS : List ByteArray := [St [97], St [98], St [99]]
theorem abc_own (w : World) : OwnS (w.alloc (.cells #[.string (St [97]), .string (St [98]), .string (St [99])] 9)) w.heap.size (.slice (some ⟨w.heap.size, 0, none⟩) 3 3) abcS :=
  ⟨rfl, .inr ⟨w.heap.size, 3, _, rfl, Nat.le_refl _, heap_alloc_new w _, Nat.le_refl _, by unfold maxLen; omega, rfl, rfl⟩⟩
theorem abc_get {w : World} {B g : Nat} (h : OwnS w B (.slice (some ⟨g, 0, none⟩) 3 3) abcS) (k : Nat) (hk : k < 3) : w.cell? ⟨g, k, none⟩ = some (.string (St [letU k])) := by
  have hc := World.ownsRow.cellAt (h : w.ownsRow B 9 1 _ 3 _) k hk
  rw [hc]
  rcases (show k = 0 ∨ k = 1 ∨ k = 2 by omega) with rfl | rfl | rfl <;> rfl

set_option maxHeartbeats 1000000 in
theorem extendSquareFree_i (s : ByteArray) (w : World) (hs : s.size ≤ 1073741000) :
    Calls Tryd.prog 14 #[.string s] w fun e w' => e = .returned (.string (exW s)) ∧ Below w.heap.size w w' := by
  obtain ⟨R, hR⟩ : ∃ R, R = exW s := ⟨_, rfl⟩
  have hst : Hid (exGo s (3 - 0) 0 = R) := hR.symm
  rw [← hR]
  clear hR
  have hown := Lib.hid (abc_own w)
  go_enter Tryd.func14, Tryd.ntmps14
  go_wp2
  go_loopw [7] (fun i wr => ∃ k : Nat, k ≤ 3 ∧ i = .int .i64 k ∧ Hid (exGo s (3 - k) k = R) ∧ Hid (OwnS wr w.heap.size (.slice (some ⟨w.heap.size, 0, none⟩) 3 3) abcS) ∧ Below w.heap.size w wr) (fun i _ => 3 - (intOf i).toNat)
  case atStart => exact ⟨0, by omega, rfl, hst, hown, (Below.refl _ _).alloc (Nat.le_refl _) _⟩
  case round =>
    obtain ⟨k, hk, rfl, hg, ho, hb⟩ := hrel
    by_cases hlt : k < 3
    · have hc := abc_get ho.out k hlt
      have hsn := snoc_eq s k
      have hsz2 := snoc_size s k
      have hs1 : (St [letU k]).size = 1 := rfl
      have hq := fun W => Lib.hid (sq_i (snoc s k) W (by omega))
      cases he : sqB (snoc s k)
      · have hnx := Lib.hid ((exGo_miss hlt he).symm.trans hg.out)
        rw [he] at hq
        clear he
        go_wp2_with fail
        refine (hq _).out.mono ?_
        rintro e w' ⟨rfl, hb1⟩
        have ho1 := Lib.hid (own_below ho.out hb1)
        have hb2 := Lib.hid (hb.trans (hb1.mono hb.size))
        go_wp2_with fail
        go_roundw
        case rel => exact ⟨k + 1, by omega, by go_num, hnx, ho1, hb2.out⟩
        case measure => simp [intOf] <;> omega
      · have hnx := Lib.hid ((exGo_hit hlt he).symm.trans hg.out)
        rw [he] at hq
        clear he
        go_wp2_with fail
        refine (hq _).out.mono ?_
        rintro e w' ⟨rfl, hb1⟩
        have hb2 := Lib.hid (hb.trans (hb1.mono hb.size))
        go_wp2_with fail
        go_ret
        exact ⟨ret_str hnx.out, hb2.out⟩
    · have hRt : Hid (R = St []) := by unfold Hid; rw [← hg.out, show 3 - k = 0 by omega]; rfl
      go_wp2
      go_ret
      exact ⟨ret_str hRt.out.symm, hb⟩

end Go.Proofs.YtlmciomoimfajaaDoor
