/- Contracts of isLetter, CountLetter (at the letter b) and SwapLetters in the program. Conditions: words. -/
import Derived.Test.YtlmciomoimfajaaB1
import Derived.Test.YtlmciomoimfajaaC4
import Derived.Test.YtlmciomoimfajaaM1
import Derived.Test.YtlmciomoimfajaaShelf
namespace Go.Proofs.Ytlmciomoimfajaa
open Go.RowKit
set_option linter.unusedVariables false

theorem isLetter_b (w : World) :
    Calls Try.prog 90 #[.string ⟨#[98]⟩] w fun e w' => e = .returned (.bool true) ∧ w = w' := by
  have h1 := fun W => Lib.hid (isWord_c ⟨#[98]⟩ W (by unfold maxLen; decide))
  rw [show wordL (⟨#[98]⟩ : ByteArray).data.toList = true by decide] at h1
  go_enter Try.func90, Try.ntmps90
  go_wp2_with fail
  refine (h1 _).out.mono ?_
  rintro e w' ⟨rfl, rfl⟩
  go_wp2_with fail
  go_ret
  exact ⟨rfl, rfl⟩
theorem countLetter_b (s : ByteArray) (w : World) (hw : wordL s.data.toList = true) :
    Calls Try.prog 20 #[.string s, .string ⟨#[98]⟩] w fun e w' => e = .returned (.int .i64 (s.data.toList.count 98 : Int)) ∧ w = w' := by
  have h1 := fun W => Lib.hid (isWord_c s W (by have := wordL_size hw; unfold maxLen; omega))
  have h2 := fun W => Lib.hid (isLetter_b W)
  have h3 := fun W => Lib.hid (Try.strings_Count_one s 98 W)
  rw [hw] at h1
  go_enter Try.func20, Try.ntmps20
  go_wp2_with fail
  refine (h1 _).out.mono ?_
  rintro e w' ⟨rfl, rfl⟩
  go_wp2_with fail
  refine (h2 _).out.mono ?_
  rintro e w' ⟨rfl, rfl⟩
  go_wp2_with fail
  refine (h3 _).out.mono ?_
  rintro e w' ⟨rfl, rfl⟩
  go_wp2_with fail
  go_ret
  exact ⟨rfl, rfl⟩

/-- each letter handed on to the name of its place -/
def swapL (names : ByteArray) (l : List UInt8) : List UInt8 := l.map fun c => names.data.toList.getD (c.toNat - 97) 0
theorem swapL_len (names : ByteArray) (l : List UInt8) : (swapL names l).length = l.length := by simp [swapL]
theorem swapL_step (names s : ByteArray) {k j : Nat} (h : k < s.size) (hj : s[k].toNat = j + 97) (hn : j < names.size) : swapL names (s.data.toList.take (k + 1)) = swapL names (s.data.toList.take k) ++ [names[j]] := by
  rw [take_snoc s k h]
  unfold swapL
  rw [List.map_append]
  congr 1
  simp only [List.map_cons, List.map_nil]
  rw [hj, show j + 97 - 97 = j by omega, List.getD_eq_getElem?_getD, get_some names j hn]; rfl
theorem ret_sb {a b : ByteArray} {c d : Bool} (h1 : a = b) (h2 : c = d) : Ending.returned (.tuple #[.string a, .bool c]) = .returned (.tuple #[.string b, .bool d]) := by rw [h1, h2]
set_option maxRecDepth 20000 in
set_option maxHeartbeats 2000000 in
theorem swapLetters_i (s names : ByteArray) (w : World) (hw : wordL s.data.toList = true) (hn : names.size = 4) (hc : ∀ k, k < 4 → names.data.toList.count (letU k) = 1) :
    Calls Try.prog 25 #[.string s, .string names] w fun e w' => e = .returned (.tuple #[.string (St (swapL names s.data.toList)), .bool true]) ∧ Below w.heap.size w w' := by
  have hs := wordL_size hw
  have h1 := fun W => Lib.hid (isWord_c s W (by unfold maxLen; omega))
  have HA := Lib.hid (wordL_all hw)
  have h2 := fun k (hk : k < 4) W => Lib.hid (show Calls Try.prog 91 #[.string names, .string (St [letU k])] W fun e w' => e = .returned (.int .i64 1) ∧ w' = W from (Try.strings_Count_one names (letU k) W).mono fun e w' ⟨h, h'⟩ => ⟨by rw [h]; show Ending.returned (.int .i64 ((names.data.toList.count (letU k) : Nat) : Int)) = _; rw [hc k hk]; rfl, h'⟩)
  rw [hw] at h1
  have hne : ((names.size : Int) != 4) = false := by simp; omega
  have hst := Lib.hid (ownB_empty w (Nat.le_refl w.heap.size))
  have HN := Lib.hid hn
  clear hw hn hc
  go_enter Try.func25, Try.ntmps25
  go_wp2_with fail
  refine (h1 _).out.mono ?_
  rintro e w' ⟨rfl, rfl⟩
  go_wp2_with fail
  go_loop [17] (fun z => ∃ k : Nat, z = .int .i64 k ∧ k ≤ 4) (fun z => 4 - (intOf z).toNat)
  case atStart => exact ⟨0, rfl, by omega⟩
  case round =>
    obtain ⟨k, rfl, hk⟩ := hrel
    by_cases hlt : k < 4
    · have hle := letter_abcd k hlt
      have c1 : (k : Int) + 1 ≤ 4 := by omega
      have c2 : (k : Int) ≤ (k : Int) + 1 := by omega
      have c3 : (k : Int) < 4 := by omega
      have hcall := h2 k hlt w
      go_wp2_with fail
      refine hcall.out.mono ?_
      rintro e w' ⟨rfl, rfl⟩
      go_wp2_with fail
      go_round
      case rel => exact ⟨k + 1, by go_num, by omega⟩
      case measure => simp [intOf] <;> omega
    · have c3 : decide ((k : Int) < 4) = false := decide_eq_false (by omega)
      go_wp2_with fail
      go_loopw [7, 31] (fun v z wr => ∃ k : Nat, z = .int .i64 k ∧ k ≤ s.size ∧ Hid (OwnB wr w.heap.size v (swapL names (s.data.toList.take k))) ∧ Below w.heap.size w wr) (fun _ z _ => s.size - (intOf z).toNat)
      case atStart => exact ⟨0, rfl, by omega, hst, (Below.refl _ _).alloc (Nat.le_refl _) _⟩
      case round =>
        obtain ⟨i, rfl, hi, hown, hb⟩ := hrel
        by_cases hlt : i < s.size
        · have hab := HA.out s[i] (List.mem_of_getElem (i := i) (h := by simpa using hlt) rfl)
          have hbd := abcd_iff.1 hab
          obtain ⟨j, hj⟩ : ∃ j : Nat, s[i].toNat = j + 97 := ⟨s[i].toNat - 97, by omega⟩
          have hj4 : j < 4 := by omega
          have hjn : j < names.size := by rw [HN.out]; exact hj4
          have hjni : (j : Int) < (names.size : Int) := by omega
          have hji : ((s[i].toNat : Nat) : Int) - 97 = (j : Int) := by omega
          have hjw : IntKind.u8.wrap (j : Int) = (j : Int) := by unfold IntKind.wrap; simp [IntKind.signed, IntKind.bits]; omega
          have hsn := Lib.hid (swapL_step names s hlt hj hjn)
          have hl4 : (swapL names (s.data.toList.take i)).length ≤ 400 := by rw [swapL_len, List.length_take]; omega
          have hsz := hb.size
          clear hj hab hbd
          go_wp2_with (at_builtin; refine appB rfl _ _ rfl w.heap.size _ (swapL names (s.data.toList.take i)) rfl (by exact hown.out) names[j] _ rfl rfl (by omega) (by exact hb.size) ?_; intro v' w' hown' hg')
          go_roundw
          case rel => exact ⟨i + 1, by go_num, by omega, by rw [hsn.out]; exact hown', below_app hb hown.out hg' hb.size⟩
          case measure => simp [intOf] <;> omega
        · obtain rfl : i = s.size := by omega
          have hfin : Hid (swapL names (s.data.toList.take s.size) = swapL names s.data.toList) := by unfold Hid; rw [List.take_of_length_le (by rw [← size_len]; exact Nat.le_refl _)]
          have hcv := conv_own hown.out
          go_wp2_with fail
          go_ret2
          exact ⟨ret_sb (by rw [hfin.out]) rfl, hb⟩
end Go.Proofs.Ytlmciomoimfajaa
