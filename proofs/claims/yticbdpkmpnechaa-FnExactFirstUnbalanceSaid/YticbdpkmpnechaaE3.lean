/- Contracts of IsBinary in the program and in the reference, and the walk of its law. Conditions: none beyond the law's own test of the length. -/
import Derived.Test.YticbdpkmpnechaaB1
import Derived.Test.YticbdpkmpnechaaShelf
namespace Go.Proofs.Yticbdpkmpnechaa
open Go.RowKit
set_option linter.unusedVariables false

def abL (l : List UInt8) : Bool := l.all fun c => decide (c.toNat < 99)
def binB (s : ByteArray) : Bool := wordL s.data.toList && abL s.data.toList
theorem any_cd : ∀ l : List UInt8, (∀ c ∈ l, abcd c = true) → Lib.indexAny l [99, 100] = -1 ∧ abL l = true ∨ 0 ≤ Lib.indexAny l [99, 100] ∧ abL l = false
  | [], _ => .inl ⟨rfl, rfl⟩
  | c :: l, h => by
    have hc := abcd_iff.1 (h c (by simp))
    have ih := any_cd l fun x hx => h x (by simp [hx])
    by_cases h99 : c.toNat < 99
    · have hn : ([99, 100] : List UInt8).contains c = false := by
        cases hb : ([99, 100] : List UInt8).contains c with
        | false => rfl
        | true =>
          simp at hb
          rcases hb with rfl | rfl
          · exact absurd h99 (by decide)
          · exact absurd h99 (by decide)
      have ha : abL (c :: l) = abL l := by simp [abL, h99]
      rw [ha, Lib.indexAny, hn]
      rcases ih with ⟨a, b⟩ | ⟨a, b⟩
      · exact .inl ⟨by rw [a]; rfl, b⟩
      · refine .inr ⟨?_, b⟩
        rw [if_neg (by decide), if_neg (by rw [beq_iff_eq]; omega)]; omega
    · have hn : ([99, 100] : List UInt8).contains c = true := by
        have : c.toNat = 99 ∨ c.toNat = 100 := by omega
        rcases this with h | h
        · have : c = 99 := UInt8.toNat_inj.1 (by rw [h]; rfl)
          subst this; rfl
        · have : c = 100 := UInt8.toNat_inj.1 (by rw [h]; rfl)
          subst this; rfl
      refine .inr ⟨by rw [Lib.indexAny, if_pos hn]; decide, ?_⟩
      simp [abL, h99]
theorem any_eq {s : ByteArray} (h : wordL s.data.toList = true) : Lib.containsAny s.data.toList (⟨#[99, 100]⟩ : ByteArray).data.toList = !abL s.data.toList := by
  have : (⟨#[99, 100]⟩ : ByteArray).data.toList = [99, 100] := rfl
  rw [this, Lib.containsAny]
  rcases any_cd _ (wordL_all h) with ⟨a, b⟩ | ⟨a, b⟩
  · rw [a, b]; rfl
  · rw [b, decide_eq_true a]; rfl
theorem word_lt {s : ByteArray} (h : wordL s.data.toList = true) : ∀ (j : Nat) b, s.data.toList[j]? = some b → b.toNat < 128 := by
  intro j b hj
  have := abcd_iff.1 (wordL_all h b (List.mem_of_getElem? hj))
  omega
theorem word_at {s : ByteArray} (h : wordL s.data.toList = true) {k : Nat} (hk : k < s.size) : 97 ≤ (s[k].toNat : Int) ∧ (s[k].toNat : Int) ≤ 100 :=
  abcd_iff.1 (wordL_all h s[k] (List.mem_of_getElem (i := k) (h := by simpa using hk) rfl))

def abTo (s : ByteArray) (k : Nat) : Prop := ∀ c ∈ s.data.toList.take k, c.toNat < 99
theorem abTo_zero (s : ByteArray) : abTo s 0 := by intro c hc; simp at hc
theorem abTo_succ {s : ByteArray} {k : Nat} (hk : k < s.size) (h : abTo s k) (h1 : (s[k].toNat : Int) < 99) : abTo s (k + 1) := by
  intro c hc
  rw [take_snoc s k hk] at hc
  rcases List.mem_append.1 hc with hc | hc
  · exact h c hc
  · simp only [List.mem_singleton] at hc; subst hc; omega
theorem ab_no {s : ByteArray} {k : Nat} (hk : k < s.size) (h : 99 ≤ (s[k].toNat : Int)) : abL s.data.toList = false := by
  cases hw : abL s.data.toList with
  | false => rfl
  | true =>
    have := List.all_eq_true.1 hw s[k] (List.mem_of_getElem (i := k) (h := by simpa using hk) rfl)
    simp only [decide_eq_true_eq] at this
    omega
theorem ab_yes {s : ByteArray} {k : Nat} (hk : s.size ≤ k) (h : abTo s k) : abL s.data.toList = true := by
  unfold abL
  rw [List.all_eq_true]; intro c hc
  exact decide_eq_true (h c (by rw [List.take_of_length_le (by rw [← size_len]; exact hk)]; exact hc))

set_option maxHeartbeats 1000000 in
theorem l03Within_c (s : ByteArray) (w : World) (hw : wordL s.data.toList = true) :
    Calls Try.prog 88 #[.int .i64 2, .string s] w fun e w' => e = .returned (.bool (abL s.data.toList)) ∧ w = w' := by
  have hsz := wordL_size hw
  have HW := Lib.hid hw
  clear hw
  go_enter Try.func88, Try.ntmps88
  go_wp2
  go_loop [5] (fun i => ∃ k : Nat, k ≤ s.size ∧ i = .int .i64 k ∧ Hid (abTo s k)) (fun i => s.size - (intOf i).toNat)
  case atStart => exact ⟨0, Nat.zero_le _, rfl, abTo_zero s⟩
  case round =>
    obtain ⟨k, hk, rfl, hl⟩ := hrel
    by_cases hlt : k < s.size
    · have hb := word_at HW.out hlt
      have e1 : IntKind.u8.wrap ((s[k].toNat : Int) - 97) = (s[k].toNat : Int) - 97 := IntWalk.u8_in _ (by omega)
      have e2 : IntKind.i64.wrap ((s[k].toNat : Int) - 97) = (s[k].toNat : Int) - 97 := IntWalk.i64_in _ (by omega)
      by_cases h1 : (s[k].toNat : Int) < 99
      · have hd : decide (2 ≤ (s[k].toNat : Int) - 97) = false := decide_eq_false (by omega)
        have hnx := Lib.hid (abTo_succ hlt hl.out h1)
        go_wp2
        go_round
        case rel => exact ⟨k + 1, by omega, by go_num, hnx⟩
        case measure => simp [intOf]; omega
      · have hd : decide (2 ≤ (s[k].toNat : Int) - 97) = true := decide_eq_true (by omega)
        have hr := Lib.hid (ab_no hlt (by omega))
        go_wp2
        go_ret
        exact ⟨ret_bool hr.out.symm, rfl⟩
    · have hr := Lib.hid (ab_yes (by omega) hl.out)
      go_wp2
      go_ret
      exact ⟨ret_bool hr.out.symm, rfl⟩

theorem isBinary_i (s : ByteArray) (w : World) (hs : s.size ≤ 1073741824) :
    Calls Try.prog 79 #[.string s] w fun e w' => e = .returned (.bool (binB s)) ∧ Below w.heap.size w w' := by
  have h1 := fun W => Lib.hid (isWord_c s W (by unfold maxLen; omega))
  have hcb : binB s = (wordL s.data.toList && abL s.data.toList) := rfl
  rw [hcb]
  clear hcb
  cases hw : wordL s.data.toList
  · rw [hw] at h1
    go_enter Try.func79, Try.ntmps79
    go_wp2_with fail
    refine (h1 _).out.mono ?_
    rintro e w' ⟨rfl, rfl⟩
    go_wp2_with fail
    go_ret
    exact ⟨rfl, Below.refl _ _⟩
  · rw [hw] at h1
    have h2 := fun W => Lib.hid (Try.strings_ContainsAny_laid s ⟨#[99, 100]⟩ W (by omega) (by decide) (word_lt hw) (by
      intro j b hj
      have : (⟨#[99, 100]⟩ : ByteArray).data.toList = [99, 100] := rfl
      rw [this] at hj
      have := List.mem_of_getElem? hj
      simp at this
      rcases this with rfl | rfl <;> decide))
    rw [any_eq hw] at h2
    clear hw
    cases ha : abL s.data.toList
    all_goals
      rw [ha] at h2
      clear ha
      go_enter Try.func79, Try.ntmps79
      go_wp2_with fail
      refine (h1 _).out.mono ?_
      rintro e w' ⟨rfl, rfl⟩
      go_wp2_with fail
      refine (h2 _).out.mono ?_
      rintro e w' ⟨rfl, hb⟩
      go_wp2_with fail
      go_ret
      exact ⟨rfl, hb⟩

theorem isBinary_s (s : ByteArray) (w : World) (hs : s.size ≤ 1073741824) :
    Calls Try.prog 77 #[.string s] w fun e w' => e = .returned (.bool (binB s)) ∧ w = w' := by
  have h1 := fun W => Lib.hid (wordOk_c s W (by unfold maxLen; omega))
  have hcb : binB s = (wordL s.data.toList && abL s.data.toList) := rfl
  rw [hcb]
  clear hcb
  cases hw : wordL s.data.toList
  · rw [hw] at h1
    go_enter Try.func77, Try.ntmps77
    go_wp2_with fail
    refine (h1 _).out.mono ?_
    rintro e w' ⟨rfl, rfl⟩
    go_wp2_with fail
    go_ret
    exact ⟨rfl, rfl⟩
  · rw [hw] at h1
    have h2 := fun W => Lib.hid (l03Within_c s W hw)
    clear hw
    cases ha : abL s.data.toList
    all_goals
      rw [ha] at h2
      clear ha
      go_enter Try.func77, Try.ntmps77
      go_wp2_with fail
      refine (h1 _).out.mono ?_
      rintro e w' ⟨rfl, rfl⟩
      go_wp2_with fail
      refine (h2 _).out.mono ?_
      rintro e w' ⟨rfl, rfl⟩
      go_wp2_with fail
      go_ret
      exact ⟨rfl, rfl⟩

end Go.Proofs.Yticbdpkmpnechaa
