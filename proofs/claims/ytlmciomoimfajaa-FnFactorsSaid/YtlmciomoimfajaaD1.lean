/- Contracts of BordersOf and PeriodsOf in the program and in the reference. Conditions: strings of at most 2^30 bytes. -/
import Derived.Test.YtlmciomoimfajaaB9
import Derived.Test.YtlmciomoimfajaaM1
namespace Go.Proofs.Ytlmciomoimfajaa
open Go.RowKit
set_option linter.unusedVariables false

/-- the numbers from n on, 'f' of them, that P keeps -/
def selL (P : Nat → Bool) : Nat → Nat → List Int
  | 0, _ => []
  | f + 1, n => if P n = true then (n : Int) :: selL P f (n + 1) else selL P f (n + 1)
theorem selL_len (P : Nat → Bool) : ∀ f n, (selL P f n).length ≤ f
  | 0, _ => by simp [selL]
  | f + 1, n => by
    have := selL_len P f (n + 1)
    unfold selL
    split
    · simp only [List.length_cons]; omega
    · omega
theorem sel_hit {P : Nat → Bool} {f n : Nat} {acc R : List Int} (h : acc ++ selL P f n = R) (hf : 0 < f) (hp : P n = true) : Hid ((acc ++ [(n : Int)]) ++ selL P (f - 1) (n + 1) = R) := by
  obtain ⟨g, rfl⟩ : ∃ g, f = g + 1 := ⟨f - 1, by omega⟩
  unfold Hid; rw [← h, selL, if_pos hp]; simp
theorem sel_miss {P : Nat → Bool} {f n : Nat} {acc R : List Int} (h : acc ++ selL P f n = R) (hf : 0 < f) (hp : P n = false) : Hid (acc ++ selL P (f - 1) (n + 1) = R) := by
  obtain ⟨g, rfl⟩ : ∃ g, f = g + 1 := ⟨f - 1, by omega⟩
  unfold Hid; rw [← h, selL, if_neg (by rw [hp]; decide)]; simp
theorem sel_end {P : Nat → Bool} {n : Nat} {acc R : List Int} (h : acc ++ selL P 0 n = R) : acc = R := by rw [← h, selL, List.append_nil]

def borB (s : ByteArray) (n : Nat) : Bool := (s.extract 0 n).toList == (s.extract (s.size - n) s.size).toList
def borW (s : ByteArray) : List Int := if wordL s.data.toList = true then selL (borB s) (s.size - 1) 1 else []
def perW (s : ByteArray) : List Int := if wordL s.data.toList = true then selL (powB s.data.toList 0 s.size) s.size 1 else []
theorem borW_len (s : ByteArray) : (borW s).length ≤ s.size := by
  unfold borW; split
  · have := selL_len (borB s) (s.size - 1) 1; omega
  · simp
theorem perW_len (s : ByteArray) : (perW s).length ≤ s.size := by
  unfold perW; split
  · exact selL_len _ _ _
  · simp

set_option maxHeartbeats 1000000 in
theorem bordersOf_i (s : ByteArray) (w : World) (hs : s.size ≤ 1073741000) :
    Calls Try.prog 27 #[.string s] w (RetI (borW s) w) := by
  cases hw : wordL s.data.toList
  · have hr : Hid (borW s = []) := by simp [borW, hw, Hid]
    go_enter Try.func27, Try.ntmps27
    go_wp2_with (go_at_call 85; refine (isWord_c _ _ (by unfold maxLen; omega)).mono ?_; rintro e w' ⟨rfl, rfl⟩)
    go_ret
    exact retI_nil _ _ _ hr.out (Below.refl _ _)
  · obtain ⟨R, hR⟩ : ∃ R, R = borW s := ⟨_, rfl⟩
    have hr : Hid (R = borW s) := hR
    have hst : Hid ([] ++ selL (borB s) (s.size - 1) 1 = R) := by unfold Hid; rw [hR, borW, if_pos hw]; rfl
    have hst0 : Hid (OwnI (w.alloc (.cells #[] 3)) w.heap.size (.slice (some ⟨w.heap.size, 0, none⟩) 0 0) []) := ownI_empty w (Nat.le_refl _)
    clear hR
    go_enter Try.func27, Try.ntmps27
    go_wp2_with (go_at_call 85; refine (isWord_c _ _ (by unfold maxLen; omega)).mono ?_; rintro e w' ⟨rfl, rfl⟩)
    go_loopw [3, 4] (fun o i wr => ∃ (n f : Nat) (acc : List Int), 1 ≤ n ∧ n + f = max s.size 1 ∧ acc.length ≤ n ∧ i = .int .i64 n ∧ Hid (acc ++ selL (borB s) f n = R) ∧ Hid (OwnI wr w.heap.size o acc) ∧ Below w.heap.size w wr) (fun _ i _ => s.size - (intOf i).toNat)
    case atStart => exact ⟨1, s.size - 1, [], by omega, by omega, by simp, rfl, hst, hst0, (Below.refl _ _).alloc (Nat.le_refl _) _⟩
    case round =>
      obtain ⟨n, f, acc, hn1, hnf, hacc, rfl, hR, hown, hbw⟩ := hrel
      have hsz := hbw.size
      by_cases hlt : n < s.size
      · have b1 : (n : Int) ≤ (s.size : Int) := by omega
        have b2 : 0 ≤ (s.size : Int) - (n : Int) := by omega
        have b3 : (s.size : Int) - (n : Int) ≤ (s.size : Int) := by omega
        have e3 : ((s.size : Int) - (n : Int)).toNat = s.size - n := by omega
        have e4 : IntKind.i64.wrap ((s.size : Int) - (n : Int)) = (s.size : Int) - (n : Int) := IntWalk.i64_in _ (by omega)
        have hE : ((s.extract 0 n).toList == (s.extract (s.size - n) s.size).toList) = borB s n := rfl
        cases hb : borB s n
        · have hnx := sel_miss hR.out (by omega) hb
          rw [hb] at hE
          clear hb
          go_wp2
          go_quiet (fail)
          go_wp2
          go_roundw
          case rel => exact ⟨n + 1, f - 1, acc, by omega, by omega, by omega, by go_num, hnx, hown, below_drewN hbw _⟩
          case measure => simp [intOf] <;> omega
        · have hnx := sel_hit hR.out (by omega) hb
          rw [hb] at hE
          clear hb
          go_wp2
          go_quiet (fail)
          go_wp2_with (at_builtin; refine appI rfl _ _ rfl w.heap.size _ acc rfl (by exact hown.out) _ rfl (by omega) (by exact hsz) ?_; intro v' w' hown' hg')
          go_roundw
          case rel => exact ⟨n + 1, f - 1, acc ++ [(n : Int)], by omega, by omega, by simp <;> omega, by go_num, hnx, hown', below_app (below_drewN hbw _) hown.out hg' hsz⟩
          case measure => simp [intOf] <;> omega
      · obtain rfl : f = 0 := by omega
        have hfin : Hid (acc = borW s) := by unfold Hid; rw [← hr.out]; exact sel_end hR.out
        go_wp2
        go_ret
        exact retI_mk hown.out hfin.out hbw

set_option maxHeartbeats 1000000 in
theorem periodsOf_i (s : ByteArray) (w : World) (hs : s.size ≤ 1073741000) :
    Calls Try.prog 28 #[.string s] w (RetI (perW s) w) := by
  cases hw : wordL s.data.toList
  · have hr : Hid (perW s = []) := by simp [perW, hw, Hid]
    go_enter Try.func28, Try.ntmps28
    go_wp2_with (go_at_call 85; refine (isWord_c _ _ (by unfold maxLen; omega)).mono ?_; rintro e w' ⟨rfl, rfl⟩)
    go_ret
    exact retI_nil _ _ _ hr.out (Below.refl _ _)
  · obtain ⟨R, hR⟩ : ∃ R, R = perW s := ⟨_, rfl⟩
    have hr : Hid (R = perW s) := hR
    have hst : Hid ([] ++ selL (powB s.data.toList 0 s.size) s.size 1 = R) := by unfold Hid; rw [hR, perW, if_pos hw]; rfl
    have hst0 : Hid (OwnI (w.alloc (.cells #[] 3)) w.heap.size (.slice (some ⟨w.heap.size, 0, none⟩) 0 0) []) := ownI_empty w (Nat.le_refl _)
    clear hR
    go_enter Try.func28, Try.ntmps28
    go_wp2_with (go_at_call 85; refine (isWord_c _ _ (by unfold maxLen; omega)).mono ?_; rintro e w' ⟨rfl, rfl⟩)
    go_loopw [3, 4] (fun o i wr => ∃ (n f : Nat) (acc : List Int), 1 ≤ n ∧ n + f = s.size + 1 ∧ acc.length ≤ n ∧ i = .int .i64 n ∧ Hid (acc ++ selL (powB s.data.toList 0 s.size) f n = R) ∧ Hid (OwnI wr w.heap.size o acc) ∧ Below w.heap.size w wr) (fun _ i _ => s.size + 1 - (intOf i).toNat)
    case atStart => exact ⟨1, s.size, [], by omega, by omega, by simp, rfl, hst, hst0, (Below.refl _ _).alloc (Nat.le_refl _) _⟩
    case round =>
      obtain ⟨n, f, acc, hn1, hnf, hacc, rfl, hR, hown, hbw⟩ := hrel
      have hsz := hbw.size
      by_cases hlt : n ≤ s.size
      · have hpc := fun W => Lib.hid (isPower_c s 0 s.size n W (by omega) (by omega) (by omega) (by omega))
        cases hb : powB s.data.toList 0 s.size n
        · have hnx := sel_miss hR.out (by omega) hb
          rw [hb] at hpc
          clear hb
          go_wp2_with (go_at_call 93; refine ((hpc _).out).mono ?_; rintro e w' ⟨rfl, d, rfl⟩)
          go_roundw
          case rel => exact ⟨n + 1, f - 1, acc, by omega, by omega, by omega, by go_num, hnx, hown, below_drewN hbw _⟩
          case measure => simp [intOf] <;> omega
        · have hnx := sel_hit hR.out (by omega) hb
          rw [hb] at hpc
          clear hb
          go_wp2_with fail
          refine ((hpc _).out).mono ?_
          rintro e w' ⟨rfl, d, rfl⟩
          go_wp2_with (at_builtin; refine appI rfl _ _ rfl w.heap.size _ acc rfl (by exact hown.out) _ rfl (by omega) (by exact hsz) ?_; intro v' w' hown' hg')
          go_roundw
          case rel => exact ⟨n + 1, f - 1, acc ++ [(n : Int)], by omega, by omega, by simp <;> omega, by go_num, hnx, hown', below_app (below_drewN hbw _) hown.out hg' hsz⟩
          case measure => simp [intOf] <;> omega
      · obtain rfl : f = 0 := by omega
        have hfin : Hid (acc = perW s) := by unfold Hid; rw [← hr.out]; exact sel_end hR.out
        go_wp2
        go_ret
        exact retI_mk hown.out hfin.out hbw

end Go.Proofs.Ytlmciomoimfajaa
