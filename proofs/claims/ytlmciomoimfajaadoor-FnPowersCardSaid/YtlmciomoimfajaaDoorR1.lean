/- Contracts of in, rising and starts of the laws, each where it answers true. Conditions: short rows that can be read. -/
import Derived.Test.YtlmciomoimfajaaDoorT0
import Derived.Test.YtlmciomoimfajaaDoorU1
namespace Go.Proofs.YtlmciomoimfajaaDoor
open Go.RowKit
set_option linter.unusedVariables false

theorem rdS_cell {w : World} {ga : Option Addr} {n cc : Nat} {L : List ByteArray} (hrd : RdS w (.slice ga n cc) L) {k : Nat} {x : ByteArray} (hx : L[k]? = some x) : ∃ g, ga = some ⟨g, 0, none⟩ ∧ n ≤ cc ∧ ∀ j y, L[j]? = some y → w.cell? ⟨g, j, none⟩ = some (.string y) := by
  rcases hrd with ⟨_, h0⟩ | ⟨g, cap, h, hcap, hc⟩
  · rw [h0] at hx; simp at hx
  · cases h; exact ⟨g, rfl, hcap, hc⟩
theorem starts_c (s t : ByteArray) (w : World) (hs : s.size ≤ 1000000) (h : t.data.toList <+: s.data.toList) :
    Calls Tryd.prog 15 #[.string s, .string t] w fun e w' => e = .returned (.bool true) ∧ w = w' := by
  have hz : t.size ≤ s.size := by rw [size_len, size_len]; exact h.length_le
  have he : ((s.extract 0 t.size).toList == t.toList) = true := by
    rw [Lib.toList_data, Lib.toList_data, ext_data, List.drop_zero, Nat.sub_zero, size_len, beq_iff_eq]
    exact (List.prefix_iff_eq_take.1 h).symm
  have b1 : decide ((t.size : Int) ≤ (s.size : Int)) = true := decide_eq_true (by omega)
  have b2 : (t.size : Int) ≤ (s.size : Int) := by omega
  clear h
  go_enter Tryd.func15, Tryd.ntmps15
  go_wp2_with fail
  go_ret
  exact ⟨rfl, rfl⟩
theorem asc_le {L : List ByteArray} (h : AscS L) {k : Nat} {x y : ByteArray} (hx : L[k]? = some x) (hy : L[k + 1]? = some y) : x.data.toList < y.data.toList := by
  obtain ⟨h1, e1⟩ := List.getElem?_eq_some_iff.1 hx
  obtain ⟨h2, e2⟩ := List.getElem?_eq_some_iff.1 hy
  unfold AscS AscL bsL at h
  rw [List.pairwise_map] at h
  have := List.pairwise_iff_getElem.1 h k (k + 1) h1 h2 (by omega)
  rw [e1, e2] at this; exact this
set_option maxHeartbeats 1000000 in
theorem rising_c (v : Value) (L : List ByteArray) (w : World) (hrd : RdS w v L) (hl : L.length ≤ 1000001) (ha : AscS L) :
    Calls Tryd.prog 9 #[v] w fun e w' => e = .returned (.bool true) ∧ ∃ d, w' = w.drewN d := by
  obtain ⟨ga, cc, rfl, hcell⟩ := rdS_shape hrd
  have HC := Lib.hid hcell
  have HA := Lib.hid (fun k x y => @asc_le L ha k x y)
  obtain ⟨N, hN⟩ : ∃ N, N = L.length := ⟨_, rfl⟩
  have HN := Lib.hid hN
  rw [← hN] at hl ⊢
  clear hcell hrd hN ha
  go_enter Tryd.func9, Tryd.ntmps9
  go_wp2
  go_loopw [3] (fun z wr => ∃ k d : Nat, z = .int .i64 k ∧ 1 ≤ k ∧ (k ≤ N ∨ k = 1) ∧ wr = w.drewN d) (fun z _ => N - (intOf z).toNat)
  case atStart => exact ⟨1, 0, rfl, by omega, by omega, rfl⟩
  case round =>
    obtain ⟨k, d, rfl, hk1, hk, rfl⟩ := hrel
    by_cases hlk : k < N
    · obtain ⟨j, rfl⟩ : ∃ j, k = j + 1 := ⟨k - 1, by omega⟩
      obtain ⟨y, hy⟩ : ∃ y, L[j + 1]? = some y := ⟨_, List.getElem?_eq_getElem (by rw [← HN.out]; exact hlk)⟩
      obtain ⟨x, hx⟩ : ∃ x, L[j]? = some x := ⟨_, List.getElem?_eq_getElem (by rw [← HN.out]; omega)⟩
      obtain ⟨g, rfl, cy, hcap⟩ := HC.out (j + 1) y hy
      obtain ⟨g2, hg2, cx, _⟩ := HC.out j x hx
      obtain rfl : g2 = g := by cases hg2; rfl
      rw [← HN.out] at hcap
      have hlt := HA.out j x y hx hy
      have e1 : Op.bytesLess y.toList x.toList = false := by
        rw [bytesLess_eq, Lib.toList_data, Lib.toList_data]; exact decide_eq_false (fun h => ll_irr _ (ll_tr h hlt))
      have e2 : (y.toList == x.toList) = false := by
        rw [Lib.toList_data, Lib.toList_data, beq_eq_false_iff_ne]; intro e; rw [e] at hlt; exact ll_irr _ hlt
      have b1 : ((j + 1 : Nat) : Int) < (N : Int) := by omega
      have b3 : ((j + 1 : Nat) : Int) - 1 = (j : Int) := by omega
      have b4 : IntKind.i64.wrap (j : Int) = (j : Int) := IntWalk.i64_in _ (by omega)
      have b5 : j < N := by omega
      have b6 : j + 1 < N := hlk
      obtain ⟨wo, hwo⟩ : ∃ wo, wo = w.drewN d := ⟨_, rfl⟩
      have c1 : wo.cell? ⟨g2, j + 1, none⟩ = some (.string y) := by rw [hwo]; exact cy
      have c2 : wo.cell? ⟨g2, j, none⟩ = some (.string x) := by rw [hwo]; exact cx
      have HWO := Lib.hid hwo
      rw [← hwo]
      obtain ⟨k, hk2⟩ : ∃ k, k = j + 1 := ⟨_, rfl⟩
      rw [← hk2] at c1 b1 b3 b6 hlk ⊢
      have HK := Lib.hid hk2
      clear hx hy hlt hg2 cx cy hwo hk2 hk hk1
      go_wp2_with fail
      go_quiet (fail)
      go_wp2_with fail
      go_roundw
      case rel => exact ⟨k + 1, _, by go_num, by omega, by omega, by rw [HWO.out, World.drewN_drewN]⟩
      case measure => simp [intOf] <;> omega
    · go_wp2_with fail
      go_ret
      exact ⟨rfl, d, rfl⟩
end Go.Proofs.YtlmciomoimfajaaDoor
