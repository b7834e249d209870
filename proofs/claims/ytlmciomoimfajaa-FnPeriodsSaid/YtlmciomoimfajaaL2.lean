/- Contract of CommonStart in the program. Conditions: words; short rows. -/
import Derived.Test.YtlmciomoimfajaaB1
import Derived.Test.YtlmciomoimfajaaB4
import Derived.Test.YtlmciomoimfajaaM1
namespace Go.Proofs.Ytlmciomoimfajaa
open Go.RowKit
set_option linter.unusedVariables false

def sameTo8 (s t : ByteArray) (k : Nat) : Prop := ∀ j, j < k → s.data.toList[j]? = t.data.toList[j]?
set_option maxHeartbeats 2000000 in
theorem commonStart_i (s t : ByteArray) (w : World) (hs : wordL s.data.toList = true) (ht : wordL t.data.toList = true) :
    Calls Try.prog 24 #[.string s, .string t] w fun e w' => ∃ p : Nat, e = .returned (.int .i64 (p : Int)) ∧ p ≤ s.size ∧ p ≤ t.size ∧ sameTo8 s t p ∧ (p < s.size → p < t.size → s.data.toList[p]? ≠ t.data.toList[p]?) ∧ ∃ d, w' = w.drewN d := by
  have hs4 := wordL_size hs
  have ht4 := wordL_size ht
  have h1 := fun W => Lib.hid (isWord_c s W (by unfold maxLen; omega))
  have h2 := fun W => Lib.hid (isWord_c t W (by unfold maxLen; omega))
  rw [hs] at h1
  rw [ht] at h2
  clear hs ht
  go_enter Try.func24, Try.ntmps24
  go_wp2_with fail
  refine (h1 _).out.mono ?_
  rintro e w' ⟨rfl, rfl⟩
  go_wp2_with fail
  refine (h2 _).out.mono ?_
  rintro e w' ⟨rfl, rfl⟩
  go_wp2_with fail
  go_loopw [5] (fun z wr => ∃ k d : Nat, z = .int .i64 k ∧ k ≤ s.size ∧ k ≤ t.size ∧ Hid (sameTo8 s t k) ∧ wr = w.drewN d) (fun z _ => s.size - (intOf z).toNat)
  case atStart => exact ⟨0, 0, rfl, by omega, by omega, fun j hj => by omega, rfl⟩
  case round =>
    obtain ⟨k, d, rfl, hk1, hk2, hsame, rfl⟩ := hrel
    by_cases c1 : k < s.size
    · have b1 : (k : Int) < (s.size : Int) := by omega
      by_cases c2 : k < t.size
      · have b2 : (k : Int) < (t.size : Int) := by omega
        have g1 := get_some s k c1
        have g2 := get_some t k c2
        have HG := Lib.hid (And.intro g1 g2)
        clear g1 g2
        by_cases he : (s[k].toNat : Int) = (t[k].toNat : Int)
        · have hb : ((s[k].toNat : Int) == (t[k].toNat : Int)) = true := by simpa using he
          have hnx : Hid (sameTo8 s t (k + 1)) := fun j hj => by
            rcases Nat.lt_succ_iff_lt_or_eq.1 hj with hj | rfl
            · exact hsame.out j hj
            · rw [HG.out.1, HG.out.2, byte_inj he]
          clear he
          go_wp2
          go_quiet (fail)
          go_wp2
          go_roundw
          case rel => exact ⟨k + 1, _, by go_num, by omega, by omega, hnx, rfl⟩
          case measure => simp [intOf] <;> omega
        · have hb : ((s[k].toNat : Int) == (t[k].toNat : Int)) = false := by simpa using he
          have hne : Hid (s.data.toList[k]? ≠ t.data.toList[k]?) := fun e => he (by rw [HG.out.1, HG.out.2] at e; rw [Option.some.inj e])
          clear he
          go_wp2
          go_quiet (fail)
          go_wp2
          go_ret
          exact ⟨k, rfl, hk1, hk2, hsame.out, fun _ _ => hne.out, _, by rw [World.drewN_drewN]⟩
      · have b2 : decide ((k : Int) < (t.size : Int)) = false := decide_eq_false (by omega)
        go_wp2
        go_quiet (fail)
        go_wp2
        go_ret
        exact ⟨k, rfl, hk1, hk2, hsame.out, fun _ h => absurd h c2, _, by rw [World.drewN_drewN]⟩
    · have b1 : decide ((k : Int) < (s.size : Int)) = false := decide_eq_false (by omega)
      go_wp2
      go_quiet (fail)
      go_wp2
      go_ret
      exact ⟨k, rfl, hk1, hk2, hsame.out, fun h => absurd h c1, _, by rw [World.drewN_drewN]⟩
end Go.Proofs.Ytlmciomoimfajaa
