/- Contract of slices.BinarySearch at []string: of an ascending row it returns how many elements are less than the target, and whether the target is among them. Conditions: a row that can be read, of at most 2^20 elements. -/
import Derived.Test.YtlmciomoimfajaaT0
import Derived.Deep.LoopGhost
import Derived.Deep.QuietTactic
import Derived.Shelf.RegionOpenPlain
namespace Go.Proofs.Ytlmciomoimfajaa
open Go.RowKit
set_option linter.unusedVariables false

def ltT (y x : ByteArray) : Bool := decide (y.data.toList < x.data.toList)
def memB (l : List ByteArray) (x : ByteArray) : Bool := decide (x.data.toList ∈ bsL l)
theorem memB_iff {l : List ByteArray} {x : ByteArray} : memB l x = true ↔ x ∈ l := by unfold memB; rw [decide_eq_true_eq, mem_bsL]
def srIx (l : List ByteArray) (x : ByteArray) : Nat := l.countP fun y => ltT y x
theorem countP_splitS (p : ByteArray → Bool) : ∀ (l : List ByteArray) (i : Nat), i ≤ l.length → (∀ j, j < i → p (gS l j) = true) → (∀ j, i ≤ j → j < l.length → p (gS l j) = false) → l.countP p = i
  | [], i, hi, _, _ => by
    have : i = 0 := by simpa using hi
    simp [this]
  | a :: r, 0, _, _, h2 => by
    have ha : p a = false := h2 0 (Nat.le_refl _) (by simp)
    have := countP_splitS p r 0 (Nat.zero_le _) (fun j hj => absurd hj (Nat.not_lt_zero _)) (fun j _ hj => h2 (j + 1) (Nat.zero_le _) (by simpa using hj))
    simp [ha, this]
  | a :: r, i + 1, hi, h1, h2 => by
    have ha : p a = true := h1 0 (Nat.succ_pos _)
    have := countP_splitS p r i (by simpa using hi) (fun j hj => h1 (j + 1) (by omega)) (fun j hij hj => h2 (j + 1) (by omega) (by simpa using hj))
    simp [ha, this]
theorem asc_at {l : List ByteArray} (h : AscS l) : ∀ a b, a < b → b < l.length → (gS l a).data.toList < (gS l b).data.toList := by
  intro a b hab hb
  have := List.pairwise_iff_getElem.1 h a b (by rw [bsL_len]; omega) (by rw [bsL_len]; exact hb) hab
  rw [bsL_get l a (by omega), bsL_get l b hb] at this
  rw [gS_eq (by omega), gS_eq hb]; exact this
theorem search_endS {l : List ByteArray} {x : ByteArray} {i : Nat} (hs : AscS l) (hi : i ≤ l.length) (h1 : ∀ j, j < i → ltT (gS l j) x = true) (h2 : ∀ j, i ≤ j → j < l.length → ltT (gS l j) x = false) :
    srIx l x = i ∧ memB l x = decide (i < l.length ∧ gS l i = x) := by
  refine ⟨countP_splitS _ _ _ hi h1 h2, ?_⟩
  unfold memB
  rw [decide_eq_decide, mem_bsL]
  constructor
  · intro hm
    obtain ⟨j, hj, e⟩ := List.mem_iff_getElem.1 hm
    rw [← gS_eq hj] at e
    have hij : i ≤ j := by
      rcases Nat.lt_or_ge j i with h | h
      · have := h1 j h; rw [e] at this; unfold ltT at this; exact absurd (of_decide_eq_true this) (ll_irr _)
      · exact h
    refine ⟨by omega, ?_⟩
    rcases Nat.lt_or_ge i j with h | h
    · have a1 := asc_at hs i j h hj
      have a2 := h2 i (Nat.le_refl _) (by omega)
      rw [e] at a1
      unfold ltT at a2
      exact absurd a1 (of_decide_eq_false a2)
    · rw [show i = j by omega]; exact e
  · rintro ⟨h, e⟩
    rw [← e, gS_eq h]; exact List.getElem_mem _
theorem srIx_at {l : List ByteArray} {x : ByteArray} (hs : AscS l) (h : x ∈ l) : l[srIx l x]? = some x := by
  obtain ⟨j, hj, e⟩ := List.mem_iff_getElem.1 h
  rw [← gS_eq hj] at e
  have := (search_endS (i := j) (x := x) hs (by omega) (fun k hk => by rw [← e]; exact decide_eq_true (asc_at hs k j hk hj)) (fun k hk hkl => by
    rw [← e]; refine decide_eq_false fun hlt => ?_
    rcases Nat.lt_or_ge j k with h' | h'
    · exact ll_irr _ (ll_tr hlt (asc_at hs j k h' hkl))
    · rw [show k = j by omega] at hlt; exact ll_irr _ hlt)).1
  rw [this, gS_get hj, e]

theorem nan_c (x : ByteArray) (w : World) : Calls Try.prog 138 #[.string x] w fun e w' => e = .returned (.bool false) ∧ w = w' := by
  have h : (x.toList != x.toList) = false := by simp
  go_enter Try.func138, Try.ntmps138
  go_wp2
  go_ret
  exact ⟨by first | rfl | simp, rfl⟩
theorem nan2_c (x : ByteArray) (w : World) : Calls Try.prog 132 #[.string x] w fun e w' => e = .returned (.bool false) ∧ w = w' := by
  have h : (x.toList != x.toList) = false := by simp
  go_enter Try.func132, Try.ntmps132
  go_wp2
  go_ret
  exact ⟨by first | rfl | simp, rfl⟩
theorem less_c (x y : ByteArray) (w : World) : Calls Try.prog 131 #[.string x, .string y] w fun e w' => e = .returned (.bool (ltT x y)) ∧ w = w' := by
  have h1 := fun z W => Lib.hid (nan_c z W)
  have hl : Hid (Op.bytesLess x.toList y.toList = ltT x y) := by unfold Hid ltT; rw [bytesLess_eq, Lib.toList_data, Lib.toList_data]
  go_enter Try.func131, Try.ntmps131
  go_wp2_with fail
  refine (h1 _ _).out.mono ?_
  rintro e w' ⟨rfl, rfl⟩
  go_wp2_with fail
  go_ret
  exact ⟨ret_bool hl.out, rfl⟩

set_option maxRecDepth 100000 in
set_option maxHeartbeats 4000000 in
theorem bsearch_c (v : Value) (l : List ByteArray) (x : ByteArray) (w : World) (hrd : RdS w v l) (hs : AscS l) (hl : l.length ≤ 1000001) :
    Calls Try.prog 106 #[v, .string x] w fun e w' => e = .returned (.tuple #[.int .i64 ((srIx l x : Nat) : Int),   .bool (memB l x)]) ∧ ∃ q, w' = w.drewN q := by
  have hl1 := fun a W => Lib.hid (less_c a x W)
  have hn1 := fun a W => Lib.hid (nan2_c a W)
  rcases hrd with ⟨rfl, rfl⟩ | ⟨g, c, rfl, hcap, hc⟩
  · have hr : Hid (srIx [] x = 0 ∧ memB [] x = false) := ⟨rfl, rfl⟩
    go_enter Try.func106, Try.ntmps106
    go_wp2
    refine wp_loop_rounds 1 ?_
    rw [rounds_succ]
    go_wp2
    go_ret2
    exact ⟨by rw [hr.out.1, hr.out.2]; rfl, 0, rfl⟩
  · have S := Lib.hid (asc_at hs)
    have HE := Lib.hid (fun i => @search_endS l x i hs)
    have HC : Hid (∀ j, j < l.length → w.cell? ⟨g, j, none⟩ = some (.string (gS l j))) := fun j hj => hc j _ (gS_get hj)
    obtain ⟨n, hn⟩ : ∃ n, n = l.length := ⟨_, rfl⟩
    rw [← hn] at S HE HC hl hcap ⊢
    clear hc hs hn
    go_enter Try.func106, Try.ntmps106
    go_wp2
    go_loopg [7, 8] n (fun m s7 s8 wr => ∃ lo hi q : Nat, s7 = .int .i64 lo ∧ s8 = .int .i64 hi ∧ lo ≤ hi ∧ hi ≤ n ∧ hi - lo ≤ m ∧ wr = w.drewN q ∧ Hid ((∀ t, t < lo → ltT (gS l t) x = true) ∧ (∀ t, hi ≤ t → t < n → ltT (gS l t) x = false)))
    case atStart => exact ⟨0, n, 0, rfl, rfl, Nat.zero_le _, Nat.le_refl _, by omega, rfl, fun t ht => absurd ht (Nat.not_lt_zero _), fun t h1 h2 => by omega⟩
    case round =>
      obtain ⟨lo, hi, q, rfl, rfl, hlh, hin, hg, rfl, I⟩ := hrel
      by_cases hlt : lo < hi
      · have cm : w.cell? ⟨g, (lo + hi) / 2, none⟩ = some (.string (gS l ((lo + hi) / 2))) := HC.out _ (by omega)
        generalize hy : gS l ((lo + hi) / 2) = y at cm
        have Y : Hid (gS l ((lo + hi) / 2) = y) := hy
        clear hy
        have hlc := fun W => Lib.hid (less_c y x W)
        cases hyx : ltT y x
        · rw [hyx] at hlc
          have HYX := Lib.hid hyx
          clear hyx hl1
          go_wp2_with fail
          refine (hlc _).out.mono ?_
          rintro e w' ⟨rfl, rfl⟩
          go_wp2_with fail
          go_roundg ((lo + hi) / 2 - lo)
          case measure => omega
          case rel =>
            refine ⟨lo, (lo + hi) / 2, _, rfl, by rw [show ((lo : Int) + (hi : Int)) / 2 = (((lo + hi) / 2 : Nat) : Int) by omega], by omega, by omega, Nat.le_refl _, rfl, I.out.1, fun t ht htn => ?_⟩
            rcases Nat.eq_or_lt_of_le ht with rfl | h
            · rw [Y.out]; exact HYX.out
            · have a1 := S.out ((lo + hi) / 2) t h htn
              have a2 := HYX.out
              rw [Y.out] at a1
              unfold ltT at a2 ⊢
              exact decide_eq_false fun h' => of_decide_eq_false a2 (ll_tr a1 h')
        · rw [hyx] at hlc
          have HYX := Lib.hid hyx
          clear hyx hl1
          go_wp2_with fail
          refine (hlc _).out.mono ?_
          rintro e w' ⟨rfl, rfl⟩
          go_wp2_with fail
          go_roundg (hi - ((lo + hi) / 2 + 1))
          case measure => omega
          case rel =>
            refine ⟨(lo + hi) / 2 + 1, hi, _, by rw [show ((lo : Int) + (hi : Int)) / 2 + 1 = (((lo + hi) / 2 + 1 : Nat) : Int) by omega], rfl, by omega, hin, Nat.le_refl _, rfl, fun t ht => ?_, I.out.2⟩
            rcases Nat.eq_or_lt_of_le (show t ≤ (lo + hi) / 2 by omega) with rfl | h
            · rw [Y.out]; exact HYX.out
            · have a1 := S.out t ((lo + hi) / 2) h (by omega)
              have a2 := HYX.out
              rw [Y.out] at a1
              unfold ltT at a2 ⊢
              exact decide_eq_true (ll_tr a1 (of_decide_eq_true a2))
      · have : hi = lo := by omega
        subst this
        have E := Lib.hid (HE.out hi hin I.out.1 I.out.2)
        by_cases hn2 : hi < n
        · have cl : w.cell? ⟨g, hi, none⟩ = some (.string (gS l hi)) := HC.out _ hn2
          generalize hy : gS l hi = y at cl
          have Y : Hid (gS l hi = y) := hy
          clear hy
          have hnx : (x.toList != x.toList) = false := by simp
          cases hyx : (y.toList == x.toList)
          · have R1 : Hid (srIx l x = hi ∧ memB l x = false) := ⟨E.out.1, by rw [E.out.2, Y.out]; exact decide_eq_false fun h => str_bne hyx h.2⟩
            clear hl1
            go_wp2_with fail
            refine (hn1 _ _).out.mono ?_
            rintro e w' ⟨rfl, rfl⟩
            go_wp2_with fail
            go_ret2
            exact ⟨by rw [R1.out.1, R1.out.2]; rfl, _, rfl⟩
          · have R1 : Hid (srIx l x = hi ∧ memB l x = true) := ⟨E.out.1, by rw [E.out.2, Y.out]; exact decide_eq_true ⟨hn2, str_beq hyx⟩⟩
            clear hl1
            go_wp2_with fail
            go_ret2
            exact ⟨by rw [R1.out.1, R1.out.2]; rfl, _, rfl⟩
        · have R1 : Hid (srIx l x = hi ∧ memB l x = false) := ⟨E.out.1, by rw [E.out.2]; exact decide_eq_false fun h => hn2 h.1⟩
          clear hl1
          go_wp2_with fail
          go_ret2
          exact ⟨by rw [R1.out.1, R1.out.2]; rfl, _, rfl⟩
end Go.Proofs.Ytlmciomoimfajaa
