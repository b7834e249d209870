/- Contract of same of the laws: are two rows of numbers the same. Conditions: short rows that can be read. -/
import Derived.Test.YtlmciomoimfajaaM1
namespace Go.Proofs.Ytlmciomoimfajaa
open Go.RowKit
set_option linter.unusedVariables false

set_option maxHeartbeats 2000000 in
theorem same_c (u v : Value) (D : List Int) (w : World) (hu : RdI w u D) (hv : RdI w v D) (hl : D.length ≤ 1048576) :
    Calls Try.prog 14 #[u, v] w fun e w' => e = .returned (.bool true) ∧ ∃ d, w' = w.drewN d := by
  rcases hu with ⟨rfl, rfl⟩ | ⟨g, c, rfl, hgc, hca⟩
  · rcases hv with ⟨rfl, _⟩ | ⟨g', c', rfl, _, _⟩
    all_goals
      go_enter Try.func14, Try.ntmps14
      go_wp2
      refine wp_loop_rounds 1 ?_
      rw [rounds_succ]
      go_wp2
      go_ret
      exact ⟨rfl, 0, rfl⟩
  · rcases hv with ⟨rfl, h0⟩ | ⟨g', c', rfl, hgc', hcb⟩
    · subst h0
      go_enter Try.func14, Try.ntmps14
      go_wp2
      refine wp_loop_rounds 1 ?_
      rw [rounds_succ]
      go_wp2
      go_ret
      exact ⟨rfl, 0, rfl⟩
    · have CA := Lib.hid hca
      have CB := Lib.hid hcb
      obtain ⟨N, hN⟩ : ∃ N, N = D.length := ⟨_, rfl⟩
      have HN := Lib.hid hN
      rw [← hN] at hl hgc hgc' ⊢
      clear hca hcb hN
      have hne : ((N : Int) != (N : Int)) = false := by simp
      go_enter Try.func14, Try.ntmps14
      go_wp2
      go_loopw [14] (fun z wr => ∃ k d : Nat, z = .int .i64 k ∧ k ≤ N ∧ wr = w.drewN d) (fun z _ => N - (intOf z).toNat)
      case atStart => exact ⟨0, 0, rfl, by omega, rfl⟩
      case round =>
        obtain ⟨k, d, rfl, hk, rfl⟩ := hrel
        by_cases hlk : k < N
        · obtain ⟨x, hx⟩ : ∃ x, D[k]? = some x := ⟨_, List.getElem?_eq_getElem (by rw [← HN.out]; exact hlk)⟩
          have c1 : w.cell? ⟨g, k, none⟩ = some (.int .i64 x) := CA.out k x hx
          have c2 : w.cell? ⟨g', k, none⟩ = some (.int .i64 x) := CB.out k x hx
          have c1' : (w.drewN d).cell? ⟨g, k, none⟩ = some (.int .i64 x) := c1
          have c2' : (w.drewN d).cell? ⟨g', k, none⟩ = some (.int .i64 x) := c2
          have hxx : (x != x) = false := by simp
          have b1 : (k : Int) < (N : Int) := by omega
          clear hx
          go_wp2
          go_roundw
          case rel => exact ⟨k + 1, d, by go_num, by omega, rfl⟩
          case measure => simp [intOf] <;> omega
        · go_wp2
          go_ret
          exact ⟨rfl, d, rfl⟩
end Go.Proofs.Ytlmciomoimfajaa
