/- Contracts of QuotientsOf in the program and in the reference. Conditions: none beyond int64 arguments. -/
import Derived.Test.YtcenibojcocciaaG1
import Derived.Test.YtcenibojcocciaaM1
namespace Go.Proofs.Ytcenibojcocciaa
open Go.RowKit
set_option linter.unusedVariables false

def quoL : Nat → Nat → Nat → List Int
  | 0, _, _ => []
  | f + 1, x, y => if y = 0 then [] else ((x / y : Nat) : Int) :: quoL f y (x % y)
theorem quoL_zero (f x : Nat) : quoL f x 0 = [] := by cases f <;> simp [quoL]
theorem quoL_step {f x y : Nat} (hf : y < f) (hy : y ≠ 0) : quoL f x y = ((x / y : Nat) : Int) :: quoL (f - 1) y (x % y) := by
  obtain ⟨g, rfl⟩ : ∃ g, f = g + 1 := ⟨f - 1, by omega⟩
  rw [quoL, if_neg hy]; rfl
theorem acc_step {α : Type} {acc : List α} {c : α} {r R : List α} (h : acc ++ c :: r = R) : Hid ((acc ++ [c]) ++ r = R) := by unfold Hid; rw [← h]; simp
theorem divcast (x y : Nat) : ((x : Int)).tdiv (y : Int) = ((x / y : Nat) : Int) := by rw [Int.tdiv_eq_ediv_of_nonneg (by omega)]; exact (Int.natCast_ediv _ _).symm
theorem divcast' (x y : Nat) : ((x : Int)) / (y : Int) = ((x / y : Nat) : Int) := (Int.natCast_ediv _ _).symm
def quoOk (p q : Int) : Bool := inB p 0 100000 && inB q 1 100000
def quoW (p q : Int) : List Int := if quoOk p q = true then quoL 100001 p.toNat q.toNat else []
theorem quoL_len : ∀ f x y, (quoL f x y).length ≤ f
  | 0, _, _ => by simp [quoL]
  | f + 1, x, y => by
    unfold quoL
    split
    · simp
    · have := quoL_len f y (x % y); simp only [List.length_cons]; omega
theorem quoW_len (p q : Int) : (quoW p q).length ≤ 100001 := by
  unfold quoW; split
  · exact quoL_len _ _ _
  · simp

set_option maxHeartbeats 1000000 in
theorem quotientsOf_i (p q : Int) (w : World) :
    Calls Try.prog 19 #[.int .i64 p, .int .i64 q] w (RetI (quoW p q) w) := by
  by_cases hok : quoOk p q = true
  · obtain ⟨h1, h2⟩ : inB p 0 100000 = true ∧ inB q 1 100000 = true := by simpa [quoOk] using hok
    have b1 := inB_iff.1 h1
    have b2 := inB_iff.1 h2
    obtain ⟨a, rfl⟩ : ∃ a : Nat, p = a := ⟨p.toNat, by omega⟩
    obtain ⟨b, rfl⟩ : ∃ b : Nat, q = b := ⟨q.toNat, by omega⟩
    obtain ⟨R, hR⟩ : ∃ R, R = quoL 100001 a b := ⟨_, rfl⟩
    have hr : Hid (R = quoW a b) := by unfold Hid quoW; rw [if_pos hok]; exact hR
    have hst : Hid ([] ++ quoL 100001 a b = R) := hR.symm
    have hst0 : Hid (OwnI (w.alloc (.cells #[] 3)) w.heap.size (.slice (some ⟨w.heap.size, 0, none⟩) 0 0) []) := ownI_empty w (Nat.le_refl _)
    clear hR hok
    go_enter Try.func19, Try.ntmps19
    go_wp2_with (go_at_call 45; refine (within_c _ _ _ _).mono ?_; rintro e w' ⟨rfl, rfl⟩)
    go_loopw [0, 1, 5] (fun u v o wr => ∃ (x y f : Nat) (acc : List Int), x ≤ 100000 ∧ y ≤ 100000 ∧ y < f ∧ acc.length + f ≤ 100001 ∧ u = .int .i64 x ∧ v = .int .i64 y ∧ Hid (acc ++ quoL f x y = R) ∧ Hid (OwnI wr w.heap.size o acc) ∧ Below w.heap.size w wr) (fun _ v _ _ => (intOf v).toNat)
    case atStart => exact ⟨a, b, 100001, [], by omega, by omega, by omega, by simp, rfl, rfl, hst, hst0, (Below.refl _ _).alloc (Nat.le_refl _) _⟩
    case round =>
      obtain ⟨x, y, f, acc, hx, hy, hf, hacc, rfl, rfl, hR, hown, hbw⟩ := hrel
      have hsz := hbw.size
      by_cases hy0 : y = 0
      · subst hy0
        have hfin : Hid (acc = quoW a b) := by have := hR.out; rw [quoL_zero, List.append_nil] at this; rw [← hr.out]; exact this
        go_wp2
        go_ret
        exact retI_mk hown.out hfin.out hbw
      · have hz : ((y : Int) == 0) = false := by simp; omega
        have hz' : ((y : Int) != 0) = true := bne_iff_ne.2 (by omega)
        have hh : acc ++ ((x / y : Nat) : Int) :: quoL (f - 1) y (x % y) = R := by rw [← quoL_step hf hy0]; exact hR.out
        have hnx := acc_step hh
        obtain ⟨r, hrr⟩ : ∃ r : Nat, r = x % y := ⟨_, rfl⟩
        have hrl : r < y := by rw [hrr]; exact Nat.mod_lt _ (by omega)
        have e1 : (x : Int).tmod (y : Int) = (r : Int) := by rw [hrr]; exact modcast x y
        have e2 : (x : Int) % (y : Int) = (r : Int) := by rw [hrr]; exact modcast' x y
        obtain ⟨t, ht⟩ : ∃ t : Nat, t = x / y := ⟨_, rfl⟩
        have htl : t ≤ x := by rw [ht]; exact Nat.div_le_self _ _
        have e3 : (x : Int).tdiv (y : Int) = (t : Int) := by rw [ht]; exact divcast x y
        have e4 : (x : Int) / (y : Int) = (t : Int) := by rw [ht]; exact divcast' x y
        have e5 : IntKind.i64.wrap (t : Int) = (t : Int) := IntWalk.i64_in _ (by omega)
        rw [← hrr, ← ht] at hnx
        clear hh hrr ht
        go_wp2_with (at_builtin; refine appI rfl _ _ rfl w.heap.size _ acc rfl (by exact hown.out) _ rfl (by omega) (by exact hsz) ?_; intro v' w' hown' hg')
        go_quiet (fail)
        go_wp2
        go_roundw
        case rel => exact ⟨y, r, f - 1, acc ++ [(t : Int)], hy, by omega, by omega, by simp <;> omega, rfl, rfl, hnx, hown', below_drewN (below_app hbw hown.out hg' hsz) _⟩
        case measure => simp [intOf] <;> omega
  · have hr : Hid (quoW p q = []) := if_neg hok
    have ht : Hid (inB p 0 100000 = true → (!inB q 1 100000) = false → False) := fun a b => hok (by simp only [Bool.not_eq_false'] at b; simp [quoOk, a, b])
    clear hok
    go_enter Try.func19, Try.ntmps19
    go_wp2_with (go_at_call 45; refine (within_c _ _ _ _).mono ?_; rintro e w' ⟨rfl, rfl⟩)
    all_goals first | exact (ht.out (by assumption) (by assumption)).elim | (go_ret; exact retI_nil _ _ _ hr.out (Below.refl _ _))

set_option maxHeartbeats 1000000 in
theorem quotientsOf_s (p q : Int) (w : World) :
    Calls Try.prog 18 #[.int .i64 p, .int .i64 q] w (RetI (quoW p q) w) := by
  by_cases hok : quoOk p q = true
  · obtain ⟨h1, h2⟩ : inB p 0 100000 = true ∧ inB q 1 100000 = true := by simpa [quoOk] using hok
    have b1 := inB_iff.1 h1
    have b2 := inB_iff.1 h2
    obtain ⟨a, rfl⟩ : ∃ a : Nat, p = a := ⟨p.toNat, by omega⟩
    obtain ⟨b, rfl⟩ : ∃ b : Nat, q = b := ⟨q.toNat, by omega⟩
    obtain ⟨R, hR⟩ : ∃ R, R = quoL 100001 a b := ⟨_, rfl⟩
    have hr : Hid (R = quoW a b) := by unfold Hid quoW; rw [if_pos hok]; exact hR
    have hst : Hid ([] ++ quoL 100001 a b = R) := hR.symm
    have hst0 : Hid (OwnI (w.alloc (.cells #[] 3)) w.heap.size (.slice (some ⟨w.heap.size, 0, none⟩) 0 0) []) := ownI_empty w (Nat.le_refl _)
    clear hR hok
    go_enter Try.func18, Try.ntmps18
    go_wp2_with (go_at_call 43; refine (l01In_c _ _ _ _).mono ?_; rintro e w' ⟨rfl, rfl⟩)
    go_loopw [0, 1, 5] (fun u v o wr => ∃ (x y f : Nat) (acc : List Int), x ≤ 100000 ∧ y ≤ 100000 ∧ y < f ∧ acc.length + f ≤ 100001 ∧ u = .int .i64 x ∧ v = .int .i64 y ∧ Hid (acc ++ quoL f x y = R) ∧ Hid (OwnI wr w.heap.size o acc) ∧ Below w.heap.size w wr) (fun _ v _ _ => (intOf v).toNat)
    case atStart => exact ⟨a, b, 100001, [], by omega, by omega, by omega, by simp, rfl, rfl, hst, hst0, (Below.refl _ _).alloc (Nat.le_refl _) _⟩
    case round =>
      obtain ⟨x, y, f, acc, hx, hy, hf, hacc, rfl, rfl, hR, hown, hbw⟩ := hrel
      have hsz := hbw.size
      by_cases hy0 : y = 0
      · subst hy0
        have hfin : Hid (acc = quoW a b) := by have := hR.out; rw [quoL_zero, List.append_nil] at this; rw [← hr.out]; exact this
        go_wp2
        go_ret
        exact retI_mk hown.out hfin.out hbw
      · have hz : ((y : Int) == 0) = false := by simp; omega
        have hz' : ((y : Int) != 0) = true := bne_iff_ne.2 (by omega)
        have hh : acc ++ ((x / y : Nat) : Int) :: quoL (f - 1) y (x % y) = R := by rw [← quoL_step hf hy0]; exact hR.out
        have hnx := acc_step hh
        obtain ⟨r, hrr⟩ : ∃ r : Nat, r = x % y := ⟨_, rfl⟩
        have hrl : r < y := by rw [hrr]; exact Nat.mod_lt _ (by omega)
        have e1 : (x : Int).tmod (y : Int) = (r : Int) := by rw [hrr]; exact modcast x y
        have e2 : (x : Int) % (y : Int) = (r : Int) := by rw [hrr]; exact modcast' x y
        obtain ⟨t, ht⟩ : ∃ t : Nat, t = x / y := ⟨_, rfl⟩
        have htl : t ≤ x := by rw [ht]; exact Nat.div_le_self _ _
        have e3 : (x : Int).tdiv (y : Int) = (t : Int) := by rw [ht]; exact divcast x y
        have e4 : (x : Int) / (y : Int) = (t : Int) := by rw [ht]; exact divcast' x y
        have e5 : IntKind.i64.wrap (t : Int) = (t : Int) := IntWalk.i64_in _ (by omega)
        rw [← hrr, ← ht] at hnx
        clear hh hrr ht
        go_wp2_with (at_builtin; refine appI rfl _ _ rfl w.heap.size _ acc rfl (by exact hown.out) _ rfl (by omega) (by exact hsz) ?_; intro v' w' hown' hg')
        go_roundw
        case rel => exact ⟨y, r, f - 1, acc ++ [(t : Int)], hy, by omega, by omega, by simp <;> omega, rfl, rfl, hnx, hown', below_app hbw hown.out hg' hsz⟩
        case measure => simp [intOf] <;> omega
  · have hr : Hid (quoW p q = []) := if_neg hok
    have ht : Hid (inB p 0 100000 = true → (!inB q 1 100000) = false → False) := fun a b => hok (by simp only [Bool.not_eq_false'] at b; simp [quoOk, a, b])
    clear hok
    go_enter Try.func18, Try.ntmps18
    go_wp2_with (go_at_call 43; refine (l01In_c _ _ _ _).mono ?_; rintro e w' ⟨rfl, rfl⟩)
    all_goals first | exact (ht.out (by assumption) (by assumption)).elim | (go_ret; exact retI_nil _ _ _ hr.out (Below.refl _ _))

end Go.Proofs.Ytcenibojcocciaa
