/- Contracts of PointsOf in the program and in the reference. Conditions: none beyond int64 arguments. -/
import Derived.Test.YticbdpkmpnechaaS1
import Derived.Test.YticbdpkmpnechaaM1
import Derived.Test.YticbdpkmpnechaaA3
import Derived.OwnWalk
namespace Go.Proofs.Yticbdpkmpnechaa
open Go.RowKit Go.Sort
set_option linter.unusedVariables false

/-- the points in the order of their making -/
def ptL (p q n : Nat) : List Int := (List.range n).map fun k => ((k * p % q : Nat) : Int)
theorem ptL_len (p q n : Nat) : (ptL p q n).length = n := by simp [ptL]
theorem ptL_succ (p q n : Nat) : ptL p q (n + 1) = ptL p q n ++ [((n * p % q : Nat) : Int)] := by simp [ptL, List.range_succ]
theorem ptL_mem {p q n : Nat} {x : Int} : x ∈ ptL p q n ↔ ∃ k, k < n ∧ x = ((k * p % q : Nat) : Int) := by
  simp only [ptL, List.mem_map, List.mem_range]
  constructor
  · rintro ⟨k, h, rfl⟩; exact ⟨k, h, rfl⟩
  · rintro ⟨k, h, rfl⟩; exact ⟨k, h, rfl⟩
def ptW (p q n : Int) : List Int := if gapsOk p q n = true then uniq (ptL p.toNat q.toNat n.toNat) else []
theorem ptW_len (p q n : Int) : (ptW p q n).length ≤ 400 := by
  unfold ptW; split
  · rename_i h
    have := gapsOk_iff.1 h
    have := uniq_len (ptL p.toNat q.toNat n.toNat)
    rw [ptL_len] at this; omega
  · simp

set_option maxHeartbeats 1000000 in
theorem pointsOf_c (p q n : Nat) (w : World) (hp : p < q) (hq : q ≤ 1000) (hn : n ≤ 400) :
    Calls Try.prog 51 #[.int .i64 (p : Int), .int .i64 (q : Int), .int .i64 (n : Int)] w (RetI (uniq (ptL p q n)) w) := by
  have hst0 : Hid (OwnI (w.alloc (.cells #[] 3)) w.heap.size (.slice (some ⟨w.heap.size, 0, none⟩) 0 0) []) := ownI_empty w (Nat.le_refl _)
  go_enter Try.func51, Try.ntmps51
  go_wp2
  go_loopw [7, 11] (fun o i wr => ∃ (k : Nat) (v : Value), k ≤ n ∧ i = .int .i64 k ∧ v = o ∧ Hid (OwnI wr w.heap.size v (ptL p q k)) ∧ Below w.heap.size w wr) (fun _ i _ => n - (intOf i).toNat)
  case atStart => exact ⟨0, _, by omega, rfl, rfl, hst0, (Below.refl _ _).alloc (Nat.le_refl _) _⟩
  case round =>
    obtain ⟨k, v, hk, rfl, rfl, hown, hbw⟩ := hrel
    have hsz := hbw.size
    by_cases hlt : k < n
    · have hm1 : k * p ≤ 400 * 1000 := Nat.mul_le_mul (by omega) (by omega)
      obtain ⟨m, hm⟩ : ∃ m : Nat, m = k * p := ⟨_, rfl⟩
      have hmi : (k : Int) * (p : Int) = (m : Int) := by rw [hm]; exact (Int.natCast_mul k p).symm
      obtain ⟨r, hr⟩ : ∃ r : Nat, r = m % q := ⟨_, rfl⟩
      have hrb : r < q := by rw [hr]; exact Nat.mod_lt _ (by omega)
      have hri : (m : Int).tmod (q : Int) = (r : Int) := by rw [hr, Int.tmod_eq_emod_of_nonneg (by omega)]; exact (Int.natCast_emod _ _).symm
      have hri' : (m : Int) % (q : Int) = (r : Int) := by rw [hr]; exact (Int.natCast_emod _ _).symm
      have hw1 : IntKind.i64.wrap (m : Int) = (m : Int) := IntWalk.i64_in _ (by omega)
      have hz : ((q : Int) == 0) = false := by simp; omega
      have hl := ptL_len p q k
      have hnx : Hid (ptL p q (k + 1) = ptL p q k ++ [(r : Int)]) := by rw [ptL_succ, ← hm, ← hr]; rfl
      clear hm hr hm1
      go_wp2_with (at_builtin; refine appI rfl _ _ rfl w.heap.size _ (ptL p q k) rfl (by exact hown.out) _ rfl (by omega) (by exact hsz) ?_; intro v' w' hown' hg')
      go_roundw
      case rel => exact ⟨k + 1, _, by omega, by go_num, rfl, by rw [hnx.out]; exact hown', below_app hbw hown.out hg' hsz⟩
      case measure => simp [intOf] <;> omega
    · obtain rfl : k = n := by omega
      have hl := ptL_len p q k
      go_wp2_with fail
      refine (sortI_c v _ _ _ hown.out (by omega)).mono ?_
      rintro e w1 ⟨rfl, ho1, hg1⟩
      have HO1 := Lib.hid ho1
      have hb1 := below_app hbw hown.out hg1 hsz
      have HB1 := Lib.hid hb1
      have hl1 := sortI_len (ptL p q k)
      have hs1 := hb1.size
      clear ho1 hg1 hb1
      go_wp2_with fail
      refine (compactI_c v _ _ _ HO1.out (by omega)).mono ?_
      rintro e w2 ⟨v', rfl, ho2, hg2, -⟩
      have HO2 := Lib.hid ho2
      have HB2 := Lib.hid (below_app HB1.out HO1.out hg2 hs1)
      clear ho2 hg2
      go_wp2_with fail
      go_ret
      exact ⟨_, rfl, HO2.out, HB2.out⟩

theorem pointsOf_i (p q n : Int) (w : World) :
    Calls Try.prog 16 #[.int .i64 p, .int .i64 q, .int .i64 n] w (RetI (ptW p q n) w) := by
  have h1 := fun W => Lib.hid (areGaps_c p q n W)
  cases hok : gapsOk p q n
  · have hr : Hid (ptW p q n = []) := by simp [ptW, hok, Hid]
    rw [hok] at h1
    go_enter Try.func16, Try.ntmps16
    go_wp2_with fail
    refine (h1 _).out.mono ?_
    rintro e w' ⟨rfl, rfl⟩
    go_wp2_with fail
    go_ret
    exact retI_nil _ _ _ hr.out (Below.refl _ _)
  · have hb := gapsOk_iff.1 hok
    obtain ⟨a, rfl⟩ : ∃ a : Nat, p = a := ⟨p.toNat, by omega⟩
    obtain ⟨b, rfl⟩ : ∃ b : Nat, q = b := ⟨q.toNat, by omega⟩
    obtain ⟨c, rfl⟩ : ∃ c : Nat, n = c := ⟨n.toNat, by omega⟩
    have hr : Hid (ptW a b c = uniq (ptL a b c)) := by simp [ptW, hok, Hid]
    have h2 := fun W => Lib.hid (pointsOf_c a b c W (by omega) (by omega) (by omega))
    rw [hok] at h1
    go_enter Try.func16, Try.ntmps16
    go_wp2_with fail
    refine (h1 _).out.mono ?_
    rintro e w' ⟨rfl, rfl⟩
    go_wp2_with fail
    refine (h2 _).out.mono ?_
    rintro e w' ⟨v, rfl, ho, hbl⟩
    have HO := Lib.hid ho
    clear ho
    go_wp2_with fail
    go_ret
    exact ⟨_, rfl, by rw [hr.out]; exact HO.out, hbl⟩
end Go.Proofs.Yticbdpkmpnechaa
