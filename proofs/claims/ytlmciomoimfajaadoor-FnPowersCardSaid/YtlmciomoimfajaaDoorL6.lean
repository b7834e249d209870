/- Contracts of placesIn, PlacesIn and IsFactor in the program. Conditions: words; the library's variable MaxLen holds a number. -/
import Derived.Test.YtlmciomoimfajaaDoorB1
import Derived.Test.YtlmciomoimfajaaDoorE1
import Derived.Test.YtlmciomoimfajaaDoorM1
import Derived.Test.YtlmciomoimfajaaDoorD1
import Derived.Test.YtlmciomoimfajaaDoorShelf
namespace Go.Proofs.YtlmciomoimfajaaDoor
open Go.RowKit
set_option linter.unusedVariables false

/-- the places at which f begins in s -/
def plcW (s f : ByteArray) : List Int := selL (Lib.occAt s.data.toList f.data.toList) (s.size + 1 - f.size) 0
theorem plcW_len (s f : ByteArray) : (plcW s f).length ≤ s.size + 1 := Nat.le_trans (selL_len _ _ _) (by omega)
theorem isFactor_i (s f : ByteArray) (mx : Int) (w : World) (hm : w.cell? ⟨0, 0, none⟩ = some (.int .i64 mx)) (hs : wordL s.data.toList = true) (hf : wordL f.data.toList = true) :
    Calls Tryd.prog 12 #[.string s, .string f] w fun e w' => e = .returned (.bool (Lib.contains s.data.toList f.data.toList)) ∧ w = w' := by
  have hs4 := wordL_size hs
  have h1 := fun W => Lib.hid (isWord_c s W (by unfold maxLen; omega))
  have h2 := fun W => Lib.hid (isWord_c f W (by have := wordL_size hf; unfold maxLen; omega))
  have h3 := Lib.hid (Tryd.strings_Contains s f mx w (by omega) hm)
  rw [hs] at h1
  rw [hf] at h2
  clear hm hs hf
  go_enter Tryd.func12, Tryd.ntmps12
  go_wp2_with fail
  refine (h1 _).out.mono ?_
  rintro e w' ⟨rfl, rfl⟩
  go_wp2_with fail
  refine (h2 _).out.mono ?_
  rintro e w' ⟨rfl, rfl⟩
  go_wp2_with fail
  refine h3.out.mono ?_
  rintro e w' ⟨rfl, rfl⟩
  go_wp2_with fail
  go_ret
  exact ⟨rfl, rfl⟩
end Go.Proofs.YtlmciomoimfajaaDoor
