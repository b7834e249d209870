/- Plain: the fixed words of the two substitutions 'thue' and 'squarefree', as far as the law FnPowers asks. No program in sight. -/
import Derived.Test.YtlmciomoimfajaaDoorX1
import Derived.Test.YtlmciomoimfajaaDoorZ1
import Derived.KernelRfl
namespace Go.Proofs.YtlmciomoimfajaaDoor
set_option linter.unusedVariables false

theorem okL_dec {L : List ByteArray} (h : (decide (1 ≤ L.length) && decide (L.length ≤ 4) && L.all fun x => decide (1 ≤ x.size) && decide (x.size ≤ 8) && x.data.toList.all fun c => decide (97 ≤ c.toNat) && decide (c.toNat < 97 + L.length)) = true) : OkL L := by
  simp only [Bool.and_eq_true, decide_eq_true_eq, List.all_eq_true] at h
  exact ⟨h.1.1, h.1.2, fun x hx => (h.2 x hx).1, fun x hx c hc => (h.2 x hx).2 c hc⟩
def thueL : List ByteArray := [St [97, 98], St [98, 97]]
def sqfL : List ByteArray := [St [97, 98, 99], St [97, 99], St [98]]
theorem thue_gr : GrL thueL := { toOkL := okL_dec (by decide +kernel), grow := ⟨[98], by decide +kernel, by decide⟩ }
theorem sqf_gr : GrL sqfL := { toOkL := okL_dec (by decide +kernel), grow := ⟨[98, 99], by decide +kernel, by decide⟩ }
theorem free_of {L : List ByteArray} (h : GrL L) {k t m : Nat} (ht : 2 ≤ t) (hl : 60 ≤ (itL L [97] k).length) (hr : repC t m (itL L [97] k) = false) {n : Nat} (hn : n ≤ 60) : ¬ RepP (fxL L n) t m := by
  have h3 := fxL_is h (itL_fix h k).1 (n := n) (by omega)
  rw [← h3]
  exact fun hp => repC_no ht hr (rep_pre (List.take_prefix _ _) hp)
theorem thue_free {n : Nat} (hn : n ≤ 60) : ¬ RepP (fxL thueL n) 2 1 :=
  free_of thue_gr (k := 6) (by omega) (by decide +kernel) (by decide +kernel) hn
theorem sqf_free {n : Nat} (hn : n ≤ 60) : ¬ RepP (fxL sqfL n) 2 0 :=
  free_of sqf_gr (k := 6) (by omega) (by decide +kernel) (by decide +kernel) hn
theorem fix_wordZ {L : List ByteArray} (h : GrL L) (n : Nat) (hn : n ≤ 400) : wordL (St (fxL L n)).data.toList = true := by
  obtain ⟨h1, h2⟩ := fxL_fix h n
  exact wordL_mk (fun c hc => inL_abcd h.toOkL (h1.let_ c hc)) (by rw [← size_len, St_size]; omega)
theorem thue_val {n : Nat} (hn : n ≤ 60) : (wordL (St (fxL thueL n)).data.toList && !cB (RepP (St (fxL thueL n)).data.toList 2 1)) = true := by
  rw [fix_wordZ thue_gr n (by omega), cB_false (by rw [St_data]; exact thue_free hn)]; rfl
theorem sqf_val {n : Nat} (hn : n ≤ 60) : (wordL (St (fxL sqfL n)).data.toList && !cB (RepP (St (fxL sqfL n)).data.toList 2 0)) = true := by
  rw [fix_wordZ sqf_gr n (by omega), cB_false (by rw [St_data]; exact sqf_free hn)]; rfl
theorem cs24 : csW 2 4 = 0 := by decide +kernel
theorem cs35 : csW 3 5 = 30 := by decide +kernel
theorem cs34 : csW 3 4 = 18 := by decide +kernel
end Go.Proofs.YtlmciomoimfajaaDoor
