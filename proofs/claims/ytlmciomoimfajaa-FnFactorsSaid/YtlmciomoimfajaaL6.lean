/- Contracts of placesIn, PlacesIn and IsFactor in the program. Conditions: words; the library's variable MaxLen holds a number. -/
import Derived.Test.YtlmciomoimfajaaB1
import Derived.Test.YtlmciomoimfajaaE1
import Derived.Test.YtlmciomoimfajaaM1
import Derived.Test.YtlmciomoimfajaaD1
import Derived.Test.YtlmciomoimfajaaShelf
namespace Go.Proofs.Ytlmciomoimfajaa
open Go.RowKit
set_option linter.unusedVariables false

/-- the places at which f begins in s -/
def plcW (s f : ByteArray) : List Int := selL (Lib.occAt s.data.toList f.data.toList) (s.size + 1 - f.size) 0
theorem plcW_len (s f : ByteArray) : (plcW s f).length ≤ s.size + 1 := Nat.le_trans (selL_len _ _ _) (by omega)
set_option maxHeartbeats 2000000 in
theorem placesIn_i (s f : ByteArray) (w : World) (hs : s.size ≤ 400) (hf : f.size ≤ 400) :
    Calls Try.prog 92 #[.string s, .string f] w (RetI (plcW s f) w) := by
  obtain ⟨R, hR⟩ : ∃ R, R = plcW s f := ⟨_, rfl⟩
  have hst : Hid ([] ++ selL (Lib.occAt s.data.toList f.data.toList) (s.size + 1 - f.size) 0 = R) := hR.symm
  have hst2 := Lib.hid (ownI_empty w (Nat.le_refl w.heap.size))
  rw [← hR]
  clear hR
  go_enter Try.func92, Try.ntmps92
  go_wp2_with fail
  go_loopw [5, 6] (fun v z wr => ∃ (k g : Nat) (acc : List Int), z = .int .i64 k ∧ k ≤ s.size + 1 ∧ acc.length ≤ k ∧ (k + g + f.size = s.size + 1 ∨ (g = 0 ∧ s.size + 1 ≤ k + f.size)) ∧ Hid (acc ++ selL (Lib.occAt s.data.toList f.data.toList) g k = R) ∧ Hid (OwnI wr w.heap.size v acc) ∧ Below w.heap.size w wr) (fun _ z _ => s.size + 2 - (intOf z).toNat)
  case atStart => exact ⟨0, s.size + 1 - f.size, [], rfl, by omega, by simp, by omega, hst, hst2, (Below.refl _ _).alloc (Nat.le_refl _) _⟩
  case round =>
    obtain ⟨k, g, acc, rfl, hk, hal, hkg, hR, hown, hb⟩ := hrel
    have hsz := hb.size
    have e1 : IntKind.i64.wrap ((k : Int) + (f.size : Int)) = (k : Int) + (f.size : Int) := IntWalk.i64_in _ (by omega)
    have en : IntKind.i64.wrap ((k : Int) + 1) = (k : Int) + 1 := IntWalk.i64_in _ (by omega)
    by_cases hlt : k + f.size ≤ s.size
    · have hg0 : 0 < g := by omega
      have hkg2 : k + 1 + (g - 1) + f.size = s.size + 1 := by omega
      have HKG := Lib.hid hkg2
      have b0 : (k : Int) + (f.size : Int) ≤ (s.size : Int) := by omega
      have b1 : (k : Int) ≤ (k : Int) + (f.size : Int) := by omega
      have b2 : 0 ≤ (k : Int) + (f.size : Int) := by omega
      have e2 : ((k : Int) + (f.size : Int)).toNat = k + f.size := by omega
      have hE := occ_eq s f k hlt
      clear hkg hkg2
      cases ho : Lib.occAt s.data.toList f.data.toList k
      · have hnx := sel_miss hR.out hg0 ho
        rw [ho] at hE
        clear ho
        go_wp2_with fail
        go_roundw
        case rel => exact ⟨k + 1, g - 1, acc, by go_num, by omega, by omega, .inl HKG.out, hnx, hown, hb⟩
        case measure => simp [intOf] <;> omega
      · have hnx := sel_hit hR.out hg0 ho
        rw [ho] at hE
        clear ho
        go_wp2_with (at_builtin; refine appI rfl _ _ rfl w.heap.size _ acc rfl (by exact hown.out) (k : Int) rfl (by omega) (by exact hb.size) ?_; intro v' w' hown' hg')
        go_roundw
        case rel => exact ⟨k + 1, g - 1, acc ++ [(k : Int)], by go_num, by omega, by simp; omega, .inl HKG.out, hnx, hown', below_app hb hown.out hg' hb.size⟩
        case measure => simp [intOf] <;> omega
    · have b0 : decide ((k : Int) + (f.size : Int) ≤ (s.size : Int)) = false := decide_eq_false (by omega)
      obtain rfl : g = 0 := by omega
      have hfin := Lib.hid (sel_end hR.out)
      go_wp2_with fail
      go_ret
      exact retI_mk hown.out hfin.out hb
theorem PlacesIn_i (s f : ByteArray) (w : World) (hs : wordL s.data.toList = true) (hf : wordL f.data.toList = true) (h0 : 1 ≤ f.size) :
    Calls Try.prog 21 #[.string s, .string f] w (RetI (plcW s f) w) := by
  have hs4 := wordL_size hs
  have hf4 := wordL_size hf
  have h1 := fun W => Lib.hid (isWord_c s W (by unfold maxLen; omega))
  have h2 := fun W => Lib.hid (isWord_c f W (by unfold maxLen; omega))
  have h3 := fun W => Lib.hid (placesIn_i s f W hs4 hf4)
  rw [hs] at h1
  rw [hf] at h2
  have he := isEmpty_no h0
  have he2 : ¬ f.toList = [] := by intro e; rw [e] at he; cases he
  clear hs hf
  go_enter Try.func21, Try.ntmps21
  go_wp2_with fail
  refine (h1 _).out.mono ?_
  rintro e w' ⟨rfl, rfl⟩
  go_wp2_with fail
  refine (h2 _).out.mono ?_
  rintro e w' ⟨rfl, rfl⟩
  go_wp2_with fail
  refine (h3 _).out.mono ?_
  rintro e w' ⟨v, rfl, hown, hb⟩
  have HO := Lib.hid hown
  clear hown
  go_wp2_with fail
  go_ret
  exact ⟨v, rfl, HO.out, hb⟩
theorem isFactor_i (s f : ByteArray) (mx : Int) (w : World) (hm : w.cell? ⟨0, 0, none⟩ = some (.int .i64 mx)) (hs : wordL s.data.toList = true) (hf : wordL f.data.toList = true) :
    Calls Try.prog 23 #[.string s, .string f] w fun e w' => e = .returned (.bool (Lib.contains s.data.toList f.data.toList)) ∧ w = w' := by
  have hs4 := wordL_size hs
  have h1 := fun W => Lib.hid (isWord_c s W (by unfold maxLen; omega))
  have h2 := fun W => Lib.hid (isWord_c f W (by have := wordL_size hf; unfold maxLen; omega))
  have h3 := Lib.hid (Try.strings_Contains s f mx w (by omega) hm)
  rw [hs] at h1
  rw [hf] at h2
  clear hm hs hf
  go_enter Try.func23, Try.ntmps23
  go_wp2_with fail
  refine (h1 _).out.mono ?_
  rintro e w' ⟨rfl, rfl⟩
  go_wp2_with fail
  refine (h2 _).out.mono ?_
  rintro e w' ⟨rfl, rfl⟩
  go_wp2_with fail
  refine h3.out.mono ?_
  rintro e w' ⟨rfl, rfl⟩
  go_wp2_with fail
  go_ret
  exact ⟨rfl, rfl⟩
end Go.Proofs.Ytlmciomoimfajaa
