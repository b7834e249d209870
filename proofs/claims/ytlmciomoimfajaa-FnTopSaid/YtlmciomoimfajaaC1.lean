/- Contracts of FirstSquare in the program and in the reference. Conditions: strings of at most 2^30 bytes. -/
import Derived.Test.YtlmciomoimfajaaB9
namespace Go.Proofs.Ytlmciomoimfajaa
open Go.RowKit
set_option linter.unusedVariables false

/-- two neighboring parts are equal -/
theorem sq_eq (s : ByteArray) (a h : Nat) (hb : a + h + h ≤ s.size) : ((s.extract a (a + h)).toList == (s.extract (a + h) (a + h + h)).toList) = powB s.data.toList a (2 * h) h := by
  have hl := size_len s
  rw [Bool.eq_iff_iff, powB_iff, Lib.toList_data, Lib.toList_data, ext_data, ext_data, beq_iff_eq]
  constructor
  · intro he
    refine ⟨by omega, fun j hj => ?_⟩
    have := congrArg (fun l => l[j]?) he
    simp only [List.getElem?_take, List.getElem?_drop] at this
    rw [if_pos (by omega), if_pos (by omega)] at this
    rw [this]; congr 1; omega
  · intro hp
    apply List.ext_getElem?
    intro j
    simp only [List.getElem?_take, List.getElem?_drop]
    by_cases hj : j < h
    · rw [if_pos (by omega), if_pos (by omega), hp.2 j (by omega)]; congr 1; omega
    · rw [if_neg (by omega), if_neg (by omega)]

def fsIn (l : List UInt8) (e : Nat) : Nat → Nat → Nat
  | 0, _ => 0
  | f + 1, h => if powB l (e - 2 * h) (2 * h) h = true then h else fsIn l e f (h + 1)
def fsOut (l : List UInt8) : Nat → Nat → Int × Int
  | 0, _ => (-1, -1)
  | f + 1, e => if fsIn l e (e / 2) 1 = 0 then fsOut l f (e + 1) else (e, fsIn l e (e / 2) 1)
theorem fsIn_hit {l : List UInt8} {e h : Nat} (hh : 2 * h ≤ e) (hp : powB l (e - 2 * h) (2 * h) h = true) : fsIn l e (e / 2 + 1 - h) h = h := by
  rw [show e / 2 + 1 - h = (e / 2 - h) + 1 by omega, fsIn, if_pos hp]
theorem fsIn_miss {l : List UInt8} {e h : Nat} (hh : 2 * h ≤ e) (hp : powB l (e - 2 * h) (2 * h) h = false) : fsIn l e (e / 2 + 1 - h) h = fsIn l e (e / 2 + 1 - (h + 1)) (h + 1) := by
  rw [show e / 2 + 1 - h = (e / 2 - h) + 1 by omega, fsIn, if_neg (by simp [hp]), show e / 2 + 1 - (h + 1) = e / 2 - h by omega]
theorem fsIn_end {l : List UInt8} {e h : Nat} (hh : e < 2 * h) : fsIn l e (e / 2 + 1 - h) h = 0 := by
  rw [show e / 2 + 1 - h = 0 by omega]; rfl
theorem fsOut_hit {l : List UInt8} {e n h : Nat} (he : e ≤ n) (h1 : 1 ≤ h) (hi : fsIn l e (e / 2) 1 = h) : fsOut l (n + 1 - e) e = ((e : Int), (h : Int)) := by
  rw [show n + 1 - e = (n - e) + 1 by omega, fsOut, if_neg (by omega), hi]
theorem fsOut_miss {l : List UInt8} {e n : Nat} (he : e ≤ n) (hi : fsIn l e (e / 2) 1 = 0) : fsOut l (n + 1 - e) e = fsOut l (n + 1 - (e + 1)) (e + 1) := by
  rw [show n + 1 - e = (n - e) + 1 by omega, fsOut, if_pos hi, show n + 1 - (e + 1) = n - e by omega]
def fsW (s : ByteArray) : Int × Int := if wordL s.data.toList = true then fsOut s.data.toList (s.size + 1 - 2) 2 else (-1, -1)
theorem ret_pair {a b : Int} {R : Int × Int} (h : (a, b) = R) : Ending.returned (.tuple #[.int .i64 a, .int .i64 b]) = .returned (.tuple #[.int .i64 R.1, .int .i64 R.2]) := by subst h; rfl

end Go.Proofs.Ytlmciomoimfajaa
