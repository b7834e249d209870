/- Contracts of hasPower and l07Repeats: a word has a part that repeats. Conditions: a word (letters a to d, at most 400), small numbers. -/
import Derived.Test.YtlmciomoimfajaaB5
namespace Go.Proofs.Ytlmciomoimfajaa
open Go.RowKit
set_option linter.unusedVariables false

theorem iter_drewN (w : World) (n m p : Nat) (s : ByteArray) : (((w.drewN n).iter s p)).drewN m = (w.drewN (n + m)).iter s p := by
  simp [World.iter, World.drewN, World.alloc, Nat.add_assoc]

theorem iterPos_at (w : World) (n k : Nat) (s : ByteArray) : ((w.drewN n).iter s k).iterPos w.heap.size = k := iterPos_of (World.iter_heap (w.drewN n) s k)
theorem iterPos_at2 (w : World) (n m k : Nat) (s : ByteArray) : (((w.drewN n).iter s k).drewN m).iterPos w.heap.size = k := by rw [iter_drewN]; exact iterPos_at _ _ _ _

theorem word_ascii {s : ByteArray} (hw : wordL s.data.toList = true) : ∀ k (h : k < s.size), (s[k]'h).toNat < 128 := fun k h => by
  have := abcd_iff.1 (wordL_all hw s[k] (List.mem_of_getElem (i := k) (h := by simpa using h) rfl)); omega

theorem eqAt_of {s : ByteArray} {P i : Nat} (h1 : i < s.size) (h2 : i + P < s.size) (he : (s[i].toNat : Int) = (s[i + P].toNat : Int)) : eqAt s.data.toList P i := by
  unfold eqAt; rw [get_some s _ h1, get_some s _ h2, byte_inj he]
theorem eqAt_not {s : ByteArray} {P i : Nat} (h1 : i < s.size) (h2 : i + P < s.size) (he : ¬ (s[i].toNat : Int) = (s[i + P].toNat : Int)) : ¬ eqAt s.data.toList P i := by
  unfold eqAt; rw [get_some s _ h1, get_some s _ h2]
  intro h
  exact he (by rw [Option.some.inj h])

end Go.Proofs.Ytlmciomoimfajaa
