/- Plain facts for the law FnTop. -/
import Derived.Test.YtlmciomoimfajaaX16
import Derived.Test.YtlmciomoimfajaaX6
import Derived.Test.YtlmciomoimfajaaX7
import Derived.Test.YtlmciomoimfajaaX11
import Derived.Test.YtlmciomoimfajaaX12
import Derived.Test.YtlmciomoimfajaaL1
import Derived.Test.YtlmciomoimfajaaL4
import Derived.Test.YtlmciomoimfajaaV4
import Derived.Test.YtlmciomoimfajaaR1
namespace Go.Proofs.Ytlmciomoimfajaa
open Go.RowKit
set_option linter.unusedVariables false

theorem stA : St [letU 0] = (⟨#[97]⟩ : ByteArray) := rfl
theorem sumL_app (a : List Int) (x : Int) : sumL (a ++ [x]) = sumL a + x := by simp [sumL]
theorem sumL_fn (f : Nat → Nat) : ∀ n, sumL (fnL n (fun a => ((f a : Nat) : Int))) = ((sumTo f n : Nat) : Int)
  | 0 => rfl
  | n + 1 => by
    have e : fnL (n + 1) (fun a => ((f a : Nat) : Int)) = fnL n (fun a => ((f a : Nat) : Int)) ++ [((f n : Nat) : Int)] := by simp [fnL, List.range_succ]
    rw [e, sumL_app, sumL_fn f n, sumTo]; omega
theorem in_one {L : List ByteArray} (h : OkL L) : ∀ x ∈ ([97] : List UInt8), inL L x := fun x hx => by rw [List.mem_singleton.1 hx]; exact in_a h
/-- the counts after m rounds -/
def cvL (L : List ByteArray) (m : Nat) : List Int := fnL L.length (fun a => ((ctL (itL L [97] m) a : Nat) : Int))
theorem cv_sum {L : List ByteArray} (h : OkL L) (m : Nat) : sumL (cvL L m) = ((itL L [97] m).length : Int) := by
  unfold cvL
  rw [sumL_fn, cnt_sum h _ (itL_in h (in_one h) m)]
theorem it5 {L : List ByteArray} (h : GrL L) {m : Nat} (hm : m ≤ 5) : (itL L [97] m).length ≤ 32768 :=
  Nat.le_trans (itL_len h m) (Nat.le_trans (Nat.pow_le_pow_right (by omega) hm) (by decide))
theorem cv_bd {L : List ByteArray} (h : GrL L) {m : Nat} (hm : m ≤ 5) : ∀ x ∈ cvL L m, 0 ≤ x ∧ x ≤ 100000 := fun x hx => by
  unfold cvL fnL at hx
  obtain ⟨a, _, rfl⟩ := List.mem_map.1 hx
  have h1 := ctL_le (itL L [97] m) a
  have h2 := it5 h hm
  omega
theorem cntL_get (l : List UInt8) {i : Nat} (hi : i < 4) : (cntL l)[i]? = some ((ctL l i : Nat) : Int) := by
  rcases (show i = 0 ∨ i = 1 ∨ i = 2 ∨ i = 3 by omega) with rfl | rfl | rfl | rfl <;> rfl
theorem fix_word {L : List ByteArray} (h : GrL L) (n : Nat) (hn : n ≤ 400) : wordL (St (fxL L n)).data.toList = true := by
  obtain ⟨h1, h2⟩ := fxL_fix h n
  exact okL_word h.toOkL (s := St (fxL L n)) h1.let_ (by rw [St_size]; omega)
theorem fx_pre {L : List ByteArray} (h : GrL L) {l : List UInt8} (hf : FixP L l) {n : Nat} (hl : l.length ≤ n) : l <+: fxL L n :=
  fix_pre h hf (fxL_fix h n).1 (by rw [(fxL_fix h n).2]; exact hl)
end Go.Proofs.Ytlmciomoimfajaa
