/- Contracts of ExtendSquareFree in the program and in the reference, and the walk of its law. Conditions: none beyond the law's own test of the length. -/
import Derived.Test.YthbdonlhhpmolaaC4
import Derived.Test.YthbdonlhhpmolaaB7
import Derived.Test.YthbdonlhhpmolaaM0
namespace Go.Proofs.Ythbdonlhhpmolaa
open Go.RowKit
set_option linter.unusedVariables false

theorem endGo_iff (l : List UInt8) : ∀ f h, endGo l f h = true ↔ ∃ k, h ≤ k ∧ k < h + f ∧ PowP l (l.length - 2 * k) (2 * k) k
  | 0, h => by simp only [endGo]; exact ⟨fun e => (by cases e), fun ⟨k, a, b, _⟩ => (by omega)⟩
  | f + 1, h => by
    unfold endGo
    by_cases hp : powB l (l.length - 2 * h) (2 * h) h = true
    · rw [if_pos hp]; exact ⟨fun _ => ⟨h, Nat.le_refl _, by omega, powB_iff.1 hp⟩, fun _ => rfl⟩
    · rw [if_neg hp, endGo_iff l f (h + 1)]
      constructor
      · rintro ⟨k, a, b, c⟩; exact ⟨k, by omega, by omega, c⟩
      · rintro ⟨k, a, b, c⟩
        rcases Nat.eq_or_lt_of_le a with rfl | a
        · exact absurd (powB_iff.2 c) hp
        · exact ⟨k, a, by omega, c⟩
theorem endSq_iff (l : List UInt8) : endSq l = true ↔ ∃ k, 1 ≤ k ∧ 2 * k ≤ l.length ∧ PowP l (l.length - 2 * k) (2 * k) k := by
  unfold endSq
  rw [endGo_iff]
  constructor
  · rintro ⟨k, a, b, c⟩; exact ⟨k, a, by omega, c⟩
  · rintro ⟨k, a, b, c⟩; exact ⟨k, a, by omega, c⟩
theorem rep_snoc (l : List UInt8) (c : UInt8) : RepP (l ++ [c]) 2 0 ↔ RepP l 2 0 ∨ endSq (l ++ [c]) = true := by
  have hlen : (l ++ [c]).length = l.length + 1 := by simp
  constructor
  · rintro ⟨p, i, hp, hpow⟩
    have h1 := hpow.1
    rw [hlen] at h1
    by_cases hi : i + (2 * p + 0) ≤ l.length
    · refine .inl ⟨p, i, hp, hi, fun j hj => ?_⟩
      have := hpow.2 j hj
      rwa [List.getElem?_append_left (by omega), List.getElem?_append_left (by omega)] at this
    · refine .inr ((endSq_iff _).2 ⟨p, hp, by rw [hlen]; omega, ?_⟩)
      rw [hlen, show l.length + 1 - 2 * p = i by omega]; exact hpow
  · rintro (⟨p, i, hp, hpow⟩ | h)
    · have h1 := hpow.1
      refine ⟨p, i, hp, by rw [hlen]; omega, fun j hj => ?_⟩
      rw [List.getElem?_append_left (by omega), List.getElem?_append_left (by omega)]; exact hpow.2 j hj
    · obtain ⟨k, a, b, c⟩ := (endSq_iff _).1 h
      exact ⟨k, _, a, c⟩
theorem word_snoc {l : List UInt8} {c : UInt8} (h : wordL (l ++ [c]) = true) : wordL l = true :=
  wordL_mk (fun x hx => wordL_all h x (by simp [hx])) (by have := wordL_len h; simp at this; omega)

/-- is it a word without squares -/
noncomputable def sqB (s : ByteArray) : Bool := wordL s.data.toList && !cB (RepP s.data.toList 2 0)
theorem sq_of (s : ByteArray) (k : Nat) (h : sqB s = true) : sqB (snoc s k) = (wordL (snoc s k).data.toList && !endSq (snoc s k).data.toList) := by
  have h1 : (snoc s k).data.toList = s.data.toList ++ [letU k] := rfl
  have h2 : ¬ RepP s.data.toList 2 0 := fun hr => by simp [sqB, cB_true hr] at h
  unfold sqB
  rw [h1]
  congr 2
  cases he : endSq (s.data.toList ++ [letU k])
  · exact cB_false fun hr => by rcases (rep_snoc _ _).1 hr with hr | hr; exact h2 hr; rw [he] at hr; cases hr
  · exact cB_true ((rep_snoc _ _).2 (.inr he))
theorem sq_not (s : ByteArray) (k : Nat) (h : sqB s = false) : sqB (snoc s k) = false := by
  cases hq : sqB (snoc s k) with
  | false => rfl
  | true =>
    unfold sqB at hq h
    simp only [Bool.and_eq_true, Bool.not_eq_true'] at hq
    have hw := word_snoc (c := letU k) hq.1
    have hr : ¬ RepP s.data.toList 2 0 := fun hr => by
      have := cB_true ((rep_snoc s.data.toList (letU k)).2 (.inl hr))
      rw [show s.data.toList ++ [letU k] = (snoc s k).data.toList from rfl, hq.2] at this; cases this
    rw [hw, cB_false hr] at h; cases h
noncomputable def exGo (s : ByteArray) : Nat → Nat → ByteArray
  | 0, _ => St []
  | f + 1, k => if sqB (snoc s k) = true then snoc s k else exGo s f (k + 1)
noncomputable def exW (s : ByteArray) : ByteArray := exGo s 3 0
theorem exGo_hit {s : ByteArray} {k : Nat} (hk : k < 3) (h : sqB (snoc s k) = true) : exGo s (3 - k) k = snoc s k := by
  rw [show 3 - k = (3 - k - 1) + 1 by omega, exGo, if_pos h]
theorem exGo_miss {s : ByteArray} {k : Nat} (hk : k < 3) (h : sqB (snoc s k) = false) : exGo s (3 - k) k = exGo s (3 - (k + 1)) (k + 1) := by
  rw [show 3 - k = (3 - k - 1) + 1 by omega, exGo, if_neg (by rw [h]; decide), show 3 - k - 1 = 3 - (k + 1) by omega]
theorem exW_not {s : ByteArray} (h : sqB s = false) : exW s = St [] := by
  simp only [exW, exGo, sq_not s _ h, Bool.false_eq_true, if_false]

theorem sq_i (s : ByteArray) (w : World) (hs : s.size ≤ 1073741824) :
    Calls Try.prog 67 #[.string s] w fun e w' => e = .returned (.bool (sqB s)) ∧ Below w.heap.size w w' := isSquareFree_i s w hs
theorem sq_s (s : ByteArray) (w : World) (hs : s.size ≤ 1073741824) :
    Calls Try.prog 65 #[.string s] w fun e w' => e = .returned (.bool (sqB s)) ∧ Below w.heap.size w w' := isSquareFree_s s w hs

def abcS : List ByteArray := [St [97], St [98], St [99]]
theorem abc_own (w : World) : OwnS (w.alloc (.cells #[.string (St [97]), .string (St [98]), .string (St [99])] 9)) w.heap.size (.slice (some ⟨w.heap.size, 0, none⟩) 3 3) abcS :=
  ⟨rfl, .inr ⟨w.heap.size, 3, _, rfl, Nat.le_refl _, heap_alloc_new w _, Nat.le_refl _, by unfold maxLen; omega, rfl, rfl⟩⟩
theorem abc_get {w : World} {B g : Nat} (h : OwnS w B (.slice (some ⟨g, 0, none⟩) 3 3) abcS) (k : Nat) (hk : k < 3) : w.cell? ⟨g, k, none⟩ = some (.string (St [letU k])) := by
  have hc := World.ownsRow.cellAt (h : w.ownsRow B 9 1 _ 3 _) k hk
  rw [hc]
  rcases (show k = 0 ∨ k = 1 ∨ k = 2 by omega) with rfl | rfl | rfl <;> rfl

set_option maxHeartbeats 1000000 in
theorem extendSquareFree_i (s : ByteArray) (w : World) (hs : s.size ≤ 1073741000) :
    Calls Try.prog 22 #[.string s] w fun e w' => e = .returned (.string (exW s)) ∧ Below w.heap.size w w' := by
  obtain ⟨R, hR⟩ : ∃ R, R = exW s := ⟨_, rfl⟩
  have hst : Hid (exGo s (3 - 0) 0 = R) := hR.symm
  rw [← hR]
  clear hR
  have hown := Lib.hid (abc_own w)
  go_enter Try.func22, Try.ntmps22
  go_wp2
  go_loopw [7] (fun i wr => ∃ k : Nat, k ≤ 3 ∧ i = .int .i64 k ∧ Hid (exGo s (3 - k) k = R) ∧ Hid (OwnS wr w.heap.size (.slice (some ⟨w.heap.size, 0, none⟩) 3 3) abcS) ∧ Below w.heap.size w wr) (fun i _ => 3 - (intOf i).toNat)
  case atStart => exact ⟨0, by omega, rfl, hst, hown, (Below.refl _ _).alloc (Nat.le_refl _) _⟩
  case round =>
    obtain ⟨k, hk, rfl, hg, ho, hb⟩ := hrel
    by_cases hlt : k < 3
    · have hc := abc_get ho.out k hlt
      have hsn := snoc_eq s k
      have hsz2 := snoc_size s k
      have hs1 : (St [letU k]).size = 1 := rfl
      have hq := fun W => Lib.hid (sq_i (snoc s k) W (by omega))
      cases he : sqB (snoc s k)
      · have hnx := Lib.hid ((exGo_miss hlt he).symm.trans hg.out)
        rw [he] at hq
        clear he
        go_wp2_with fail
        refine (hq _).out.mono ?_
        rintro e w' ⟨rfl, hb1⟩
        have ho1 := Lib.hid (own_below ho.out hb1)
        have hb2 := Lib.hid (hb.trans (hb1.mono hb.size))
        go_wp2_with fail
        go_roundw
        case rel => exact ⟨k + 1, by omega, by go_num, hnx, ho1, hb2.out⟩
        case measure => simp [intOf] <;> omega
      · have hnx := Lib.hid ((exGo_hit hlt he).symm.trans hg.out)
        rw [he] at hq
        clear he
        go_wp2_with fail
        refine (hq _).out.mono ?_
        rintro e w' ⟨rfl, hb1⟩
        have hb2 := Lib.hid (hb.trans (hb1.mono hb.size))
        go_wp2_with fail
        go_ret
        exact ⟨ret_str hnx.out, hb2.out⟩
    · have hRt : Hid (R = St []) := by unfold Hid; rw [← hg.out, show 3 - k = 0 by omega]; rfl
      go_wp2
      go_ret
      exact ⟨ret_str hRt.out.symm, hb⟩

set_option maxHeartbeats 1000000 in
theorem extendSquareFree_s (s : ByteArray) (w : World) (hs : s.size ≤ 1073740000) :
    Calls Try.prog 21 #[.string s] w fun e w' => e = .returned (.string (exW s)) ∧ Below w.heap.size w w' := by
  cases hok : sqB s
  · have hr := Lib.hid (exW_not hok)
    have hq := Lib.hid (sq_s s w (by omega))
    rw [hok] at hq
    clear hok
    go_enter Try.func21, Try.ntmps21
    go_wp2_with fail
    refine hq.out.mono ?_
    rintro e w' ⟨rfl, hb⟩
    go_wp2_with fail
    go_ret
    exact ⟨ret_str hr.out.symm, hb⟩
  · obtain ⟨R, hR⟩ : ∃ R, R = exW s := ⟨_, rfl⟩
    have hst : Hid (exGo s (3 - 0) 0 = R) := hR.symm
    have hq := Lib.hid (sq_s s w (by omega))
    have hof := fun k => Lib.hid (sq_of s k hok)
    rw [hok] at hq
    rw [← hR]
    clear hR hok
    go_enter Try.func21, Try.ntmps21
    go_wp2_with fail
    refine hq.out.mono ?_
    rintro e w' ⟨rfl, hb⟩
    have HB := Lib.hid hb
    go_wp2_with fail
    go_loopw [3] (fun i wr => ∃ k d : Nat, k ≤ 3 ∧ i = .int .i64 k ∧ Hid (exGo s (3 - k) k = R) ∧ wr = w'.drewN d) (fun i _ => 3 - (intOf i).toNat)
    case atStart => exact ⟨0, 0, by omega, rfl, hst, rfl⟩
    case round =>
      obtain ⟨k, d, hk, rfl, hg, rfl⟩ := hrel
      by_cases hlt : k < 3
      · have hle := letter_abc k (by omega)
        have hsn := snoc_eq s k
        have hsz2 := snoc_size s k
        have c1 : (k : Int) + 1 ≤ 3 := by omega
        have c2 : (k : Int) ≤ (k : Int) + 1 := by omega
        have hs1 : (St [letU k]).size = 1 := rfl
        have hwd := fun W => Lib.hid (wordOk_c (snoc s k) W (by unfold maxLen; omega))
        have hen := fun W => Lib.hid (l07Ends_c (snoc s k) W (by omega))
        have hs2 := (hof k).out
        cases hw : wordL (snoc s k).data.toList
        · rw [hw, Bool.false_and] at hs2
          rw [hw] at hwd
          have hnx := Lib.hid ((exGo_miss hlt hs2).symm.trans hg.out)
          clear hw hs2
          go_wp2_with fail
          refine (hwd _).out.mono ?_
          rintro e w' ⟨rfl, rfl⟩
          go_wp2_with fail
          go_roundw
          case rel => exact ⟨k + 1, _, by omega, by go_num, hnx, rfl⟩
          case measure => simp [intOf] <;> omega
        · rw [hw, Bool.true_and] at hs2
          rw [hw] at hwd
          cases he : endSq (snoc s k).data.toList
          · rw [he] at hs2 hen
            have hnx := Lib.hid ((exGo_hit hlt hs2).symm.trans hg.out)
            clear hw hs2 he
            go_wp2_with fail
            refine (hwd _).out.mono ?_
            rintro e w' ⟨rfl, rfl⟩
            go_wp2_with fail
            refine (hen _).out.mono ?_
            rintro e w' ⟨rfl, d2, rfl⟩
            go_wp2_with fail
            go_ret
            exact ⟨ret_str hnx.out, below_drewN HB.out _⟩
          · rw [he] at hs2 hen
            have hnx := Lib.hid ((exGo_miss hlt hs2).symm.trans hg.out)
            clear hw hs2 he
            go_wp2_with fail
            refine (hwd _).out.mono ?_
            rintro e w' ⟨rfl, rfl⟩
            go_wp2_with fail
            refine (hen _).out.mono ?_
            rintro e w' ⟨rfl, d2, rfl⟩
            go_wp2_with fail
            go_roundw
            case rel => exact ⟨k + 1, _, by omega, by go_num, hnx, by first | rfl | (repeat rw [World.drewN_drewN])⟩
            case measure => simp [intOf] <;> omega
      · have hRt : Hid (R = St []) := by unfold Hid; rw [← hg.out, show 3 - k = 0 by omega]; rfl
        go_wp2
        go_ret
        exact ⟨ret_str hRt.out.symm, below_drewN HB.out _⟩

theorem lawExtendSquareFree_w (s : ByteArray) (w : World) (w0 : s.size ≤ maxLen) :
    Calls Try.prog 5 #[.string s] w fun e w' => e = .returned (.bool true) ∧ Below w.heap.size w w' := by
  unfold maxLen at w0
  by_cases hs : 1048576 < s.size
  · go_enter Try.func5, Try.ntmps5
    go_wp2
    go_ret
    exact ⟨rfl, Below.refl _ _⟩
  · go_enter Try.func5, Try.ntmps5
    go_wp2_with (first | (go_at_call 21; refine (extendSquareFree_s _ _ (by omega)).mono ?_; rintro e w1 ⟨rfl, hb1⟩) | (go_at_call 22; refine (extendSquareFree_i _ _ (by omega)).mono ?_; rintro e w2 ⟨rfl, hb2⟩))
    go_ret
    exact ⟨rfl, hb1.trans (hb2.mono hb1.size)⟩
end Go.Proofs.Ythbdonlhhpmolaa
