/- Contracts of LongestPalindrome in the program and in the reference: both give the first longest palindrome (LpP), which is one. Conditions: strings of at most 2^29 bytes. -/
import Derived.Test.YtlmciomoimfajaaB2
import Derived.Deep.QuietTactic
import Derived.BigQuiet
namespace Go.Proofs.Ytlmciomoimfajaa
open Go.RowKit
set_option linter.unusedVariables false

/-! ### plain -/
/-- m letters from i on are a palindrome -/
def PalAt (l : List UInt8) (i m : Nat) : Prop := i + m ≤ l.length ∧ ∀ j, j < m → l[i + j]? = l[i + (m - 1 - j)]?
theorem palAt_zero {l : List UInt8} {i : Nat} (h : i ≤ l.length) : PalAt l i 0 := ⟨by omega, fun j hj => by omega⟩
theorem palAt_one {l : List UInt8} {i : Nat} (h : i < l.length) : PalAt l i 1 := ⟨by omega, fun j hj => by rw [show j = 0 by omega]⟩
theorem isPal_ext {s : ByteArray} {i m : Nat} (h : i + m ≤ s.size) : isPal (s.extract i (i + m)) = true ↔ PalAt s.data.toList i m := by
  have hl := size_len s
  unfold isPal PalAt
  rw [decide_eq_true_iff, ext_data, show i + m - i = m by omega]
  have hlen : ((s.data.toList.drop i).take m).length = m := by rw [List.length_take, List.length_drop]; omega
  constructor
  · intro he
    refine ⟨by omega, fun j hj => ?_⟩
    have := congrArg (fun l => l[j]?) he
    simp only [List.getElem?_reverse (show j < ((s.data.toList.drop i).take m).length by omega), hlen, List.getElem?_take, List.getElem?_drop] at this
    rw [if_pos hj, if_pos (by omega)] at this
    exact this
  · rintro ⟨_, hp⟩
    apply List.ext_getElem?
    intro j
    by_cases hj : j < m
    · rw [List.getElem?_reverse (by omega), hlen]
      simp only [List.getElem?_take, List.getElem?_drop]
      rw [if_pos hj, if_pos (by omega)]; exact hp j hj
    · rw [List.getElem?_eq_none (by omega), List.getElem?_eq_none (by rw [List.length_reverse]; omega)]
theorem palAt_grow {l : List UInt8} {i m : Nat} (h : PalAt l (i + 1) m) (h2 : i + 1 + m < l.length) (he : l[i]? = l[i + 1 + m]?) : PalAt l i (m + 2) := by
  refine ⟨by omega, fun j hj => ?_⟩
  by_cases h0 : j = 0
  · subst h0; rw [show i + (m + 2 - 1 - 0) = i + 1 + m by omega]; exact he
  · by_cases h1 : j = m + 1
    · subst h1; rw [show i + (m + 2 - 1 - (m + 1)) = i by omega, show i + (m + 1) = i + 1 + m by omega]; exact he.symm
    · have := h.2 (j - 1) (by omega)
      rw [show i + 1 + (j - 1) = i + j by omega, show i + 1 + (m - 1 - (j - 1)) = i + (m + 2 - 1 - j) by omega] at this
      exact this
theorem palAt_shrink {l : List UInt8} {i m k : Nat} (h : PalAt l i (m + 2 * k)) : PalAt l (i + k) m := by
  refine ⟨by have := h.1; omega, fun j hj => ?_⟩
  have := h.2 (j + k) (by omega)
  rw [show i + (j + k) = i + k + j by omega, show i + (m + 2 * k - 1 - (j + k)) = i + k + (m - 1 - j) by omega] at this
  exact this
theorem palAt_ends {l : List UInt8} {i m : Nat} (h : PalAt l i (m + 2)) : l[i]? = l[i + 1 + m]? := by
  have := h.2 0 (by omega)
  rw [show i + (m + 2 - 1 - 0) = i + 1 + m by omega] at this
  simpa using this

/-- the first longest palindrome -/
def LpP (l : List UInt8) (a m : Nat) : Prop :=
  (l = [] ∧ a = 0 ∧ m = 0) ∨ (1 ≤ m ∧ PalAt l a m ∧ ∀ i k, 1 ≤ k → PalAt l i k → k < m ∨ (k = m ∧ a ≤ i))
theorem lpP_unique {l : List UInt8} {a m b n : Nat} (h : LpP l a m) (k : LpP l b n) : a = b ∧ m = n := by
  rcases h with ⟨h0, rfl, rfl⟩ | ⟨h1, h2, h3⟩ <;> rcases k with ⟨k0, rfl, rfl⟩ | ⟨k1, k2, k3⟩
  · exact ⟨rfl, rfl⟩
  · subst h0; have := k2.1; simp at this; omega
  · subst k0; have := h2.1; simp at this; omega
  · have e1 := h3 b n k1 k2
    have e2 := k3 a m h1 h2
    omega
/-- the best so far: among the palindromes whose two ends add up to less than c -/
def BestTo (l : List UInt8) (c a m : Nat) : Prop :=
  (c = 0 ∧ a = 0 ∧ m = 0) ∨ (1 ≤ c ∧ 1 ≤ m ∧ PalAt l a m ∧ ∀ i k, 1 ≤ k → PalAt l i k → 2 * i + k - 1 < c → k < m ∨ (k = m ∧ a ≤ i))
/-- the longest palindrome of a middle -/
def MaxAt (l : List UInt8) (c own len : Nat) : Prop := 2 * own + len = c + 1 ∧ PalAt l own len ∧ ∀ i k, 1 ≤ k → PalAt l i k → 2 * i + k - 1 = c → k ≤ len
theorem best_take {l : List UInt8} {c a m own len : Nat} (h : BestTo l c a m) (hm : MaxAt l c own len) (ht : m < len ∨ (len = m ∧ own < a)) (hc : c = 0 → 1 ≤ len) : BestTo l (c + 1) own len := by
  obtain ⟨h1, h2, h3⟩ := hm
  have hlen : 1 ≤ len := by
    rcases h with ⟨rfl, rfl, rfl⟩ | ⟨_, hm1, _⟩
    · exact hc rfl
    · omega
  refine .inr ⟨by omega, hlen, h2, fun i k hk hp hcc => ?_⟩
  by_cases hcu : 2 * i + k - 1 = c
  · have := h3 i k hk hp hcu; omega
  · rcases h with ⟨rfl, rfl, rfl⟩ | ⟨_, hm1, _, hb⟩
    · omega
    · have := hb i k hk hp (by omega); omega
theorem best_leave {l : List UInt8} {c a m own len : Nat} (h : BestTo l c a m) (hm : MaxAt l c own len) (ht : ¬ (m < len ∨ (len = m ∧ own < a))) (hc : c = 0 → 1 ≤ len) : BestTo l (c + 1) a m := by
  obtain ⟨h1, h2, h3⟩ := hm
  rcases h with ⟨rfl, rfl, rfl⟩ | ⟨hc1, hm1, hpa, hb⟩
  · have := hc rfl; omega
  · refine .inr ⟨by omega, hm1, hpa, fun i k hk hp hcc => ?_⟩
    by_cases hcu : 2 * i + k - 1 = c
    · have := h3 i k hk hp hcu; omega
    · exact hb i k hk hp (by omega)
theorem best_end {l : List UInt8} {a m : Nat} (h : BestTo l (2 * l.length) a m) : LpP l a m := by
  rcases h with ⟨h0, rfl, rfl⟩ | ⟨_, h1, h2, h3⟩
  · exact .inl ⟨List.eq_nil_of_length_eq_zero (by omega), rfl, rfl⟩
  · exact .inr ⟨h1, h2, fun i k hk hp => h3 i k hk hp (by have := hp.1; omega)⟩
/-- the middle's palindrome cannot grow -/
theorem max_of_stop {l : List UInt8} {c F t : Nat} (hc : F + t = c + 1) (hp : PalAt l F (t - F)) (hFt : F ≤ t) (hs : F = 0 ∨ l.length ≤ t ∨ ¬ l[F - 1]? = l[t]?) : MaxAt l c F (t - F) := by
  refine ⟨by omega, hp, fun i k hk hpk hcu => ?_⟩
  rcases Nat.lt_or_ge (t - F) k with hlt | hge
  · exfalso
    -- one step beyond
    obtain ⟨e, he⟩ : ∃ e, k = (t - F) + 2 + 2 * e := ⟨(k - (t - F) - 2) / 2, by omega⟩
    have hsh : PalAt l (i + e) ((t - F) + 2) := palAt_shrink (by rw [← he]; exact hpk)
    have hi : i + e + 1 = F := by omega
    have hends := palAt_ends hsh
    rw [show i + e = F - 1 by omega, show F - 1 + 1 + (t - F) = t by omega] at hends
    have hb := hsh.1
    rcases hs with hs | hs | hs
    · omega
    · omega
    · exact hs hends
  · exact hge

def lpW (s : ByteArray) (a m : Int) : Prop := (wordL s.data.toList = false ∧ a = -1 ∧ m = -1) ∨ (wordL s.data.toList = true ∧ ∃ i k : Nat, a = i ∧ m = k ∧ LpP s.data.toList i k)
theorem lpW_unique {s : ByteArray} {a m b n : Int} (h : lpW s a m) (k : lpW s b n) : a = b ∧ m = n := by
  rcases h with ⟨h0, rfl, rfl⟩ | ⟨h0, i, j, rfl, rfl, h⟩ <;> rcases k with ⟨k0, rfl, rfl⟩ | ⟨k0, i', j', rfl, rfl, k⟩
  · exact ⟨rfl, rfl⟩
  · rw [h0] at k0; cases k0
  · rw [h0] at k0; cases k0
  · obtain ⟨rfl, rfl⟩ := lpP_unique h k; exact ⟨rfl, rfl⟩
/-- the call returns the place and the length of the first longest palindrome -/
def RetLp (s : ByteArray) (w : World) (e : Ending) (w' : World) : Prop := ∃ a m, e = .returned (.tuple #[.int .i64 a, .int .i64 m]) ∧ lpW s a m ∧ Below w.heap.size w w'
theorem retLp_mk {s : ByteArray} {w w' : World} {a m : Int} (h : lpW s a m) (hb : Below w.heap.size w w') : RetLp s w (.returned (.tuple #[.int .i64 a, .int .i64 m])) w' := ⟨a, m, rfl, h, hb⟩
/-- the state of the inner loop: from = F - 1, to = t -/
def Inner (l : List UInt8) (c F t : Nat) : Prop := F + t = c + 1 ∧ ((F = t + 1 ∧ t < l.length) ∨ (F ≤ t ∧ PalAt l F (t - F)))
theorem inner_start {l : List UInt8} {c : Nat} (hc : c < 2 * l.length) : Inner l c (c / 2 + 1) ((c + 1) / 2) := by
  refine ⟨by omega, ?_⟩
  by_cases he : c % 2 = 0
  · exact .inl ⟨by omega, by omega⟩
  · refine .inr ⟨by omega, ?_⟩
    rw [show (c + 1) / 2 - (c / 2 + 1) = 0 by omega]
    exact palAt_zero (by omega)
theorem inner_f {l : List UInt8} {c f t : Nat} (h : Inner l c (f + 1) t) : f < l.length := by
  obtain ⟨h1, ⟨_, h2⟩ | ⟨h2, h3⟩⟩ := h
  · omega
  · have := h3.1; omega
theorem gsome (s : ByteArray) (k : Nat) (h : k < s.size) : s.data.toList[k]? = some s[k] := by
  rw [List.getElem?_eq_getElem (by simpa using h)]; rfl
theorem binj {a b : UInt8} (h : (a.toNat : Int) = (b.toNat : Int)) : a = b := UInt8.toNat_inj.1 (by omega)
theorem inner_le {l : List UInt8} {c F t : Nat} (h : Inner l c F t) : t ≤ l.length := by
  obtain ⟨h1, ⟨_, h2⟩ | ⟨h2, h3⟩⟩ := h
  · omega
  · have := h3.1; omega
theorem inner_step {l : List UInt8} {c f t : Nat} (h : Inner l c (f + 1) t) (ht : t < l.length) (he : l[f]? = l[t]?) : Inner l c f (t + 1) := by
  obtain ⟨h1, ⟨h2, h3⟩ | ⟨h2, h3⟩⟩ := h
  · refine ⟨by omega, .inr ⟨by omega, ?_⟩⟩
    rw [show t + 1 - f = 1 by omega]; exact palAt_one (by omega)
  · refine ⟨by omega, .inr ⟨by omega, ?_⟩⟩
    rw [show t + 1 - f = (t - (f + 1)) + 2 by omega]
    exact palAt_grow h3 (by omega) (by rw [show f + 1 + (t - (f + 1)) = t by omega]; exact he)
theorem inner_stop {l : List UInt8} {c F t : Nat} (h : Inner l c F t) (hs : F = 0 ∨ l.length ≤ t ∨ ¬ l[F - 1]? = l[t]?) : F ≤ t ∧ MaxAt l c F (t - F) := by
  obtain ⟨h1, ⟨h2, h3⟩ | ⟨h2, h3⟩⟩ := h
  · exfalso
    rcases hs with hs | hs | hs
    · omega
    · omega
    · exact hs (by rw [show F - 1 = t by omega])
  · exact ⟨h2, max_of_stop h1 h3 h2 hs⟩

set_option maxHeartbeats 2000000 in
theorem longestPal_i (s : ByteArray) (w : World) (hs : s.size ≤ 536870912) :
    Calls Try.prog 61 #[.string s] w (RetLp s w) := by
  cases hw : wordL s.data.toList
  · have r1 : Hid (lpW s (-1) (-1)) := .inl ⟨hw, rfl, rfl⟩
    go_enter Try.func61, Try.ntmps61
    go_wp2_with (go_at_call 85; refine (isWord_c _ _ (by unfold maxLen; omega)).mono ?_; rintro e w' ⟨rfl, rfl⟩)
    go_ret2
    exact retLp_mk r1.out (Below.refl _ _)
  · have HW := Lib.hid hw
    have hl := Lib.hid (size_len s)
    go_enter Try.func61, Try.ntmps61
    go_wp2_with (go_at_call 85; refine (isWord_c _ _ (by unfold maxLen; omega)).mono ?_; rintro e w' ⟨rfl, rfl⟩)
    go_loopw [4, 5, 17] (fun p q i wr => ∃ c a m : Nat, c ≤ 2 * s.size ∧ a ≤ s.size ∧ m ≤ s.size ∧ i = .int .i64 c ∧ p = .int .i64 a ∧ q = .int .i64 m ∧ Hid (BestTo s.data.toList c a m) ∧ Below w.heap.size w wr) (fun _ _ i _ => 2 * s.size - (intOf i).toNat)
    case atStart => exact ⟨0, 0, 0, Nat.zero_le _, Nat.zero_le _, Nat.zero_le _, rfl, rfl, rfl, .inl ⟨rfl, rfl, rfl⟩, Below.refl _ _⟩
    case round =>
      obtain ⟨c, a, m, hc, ha, hm, rfl, rfl, rfl, hb, hbw⟩ := hrel
      by_cases hlt : c < 2 * s.size
      · have hd : decide ((c : Int) < 2 * (s.size : Int)) = true := by simp; omega
        obtain ⟨x, hx⟩ : ∃ x : Nat, x = c / 2 := ⟨_, rfl⟩
        obtain ⟨y, hy⟩ : ∃ y : Nat, y = (c + 1) / 2 := ⟨_, rfl⟩
        have hxi : (c : Int) / 2 = (x : Int) := by omega
        have hyi : ((c : Int) + 1) / 2 = (y : Int) := by omega
        have hin : Hid (Inner s.data.toList c (x + 1) y) := by rw [hx, hy]; exact inner_start (by rw [← hl.out]; exact hlt)
        have hxb : x ≤ s.size := by omega
        have hyb : y ≤ s.size := by omega
        clear hx hy
        go_wp2
        go_loopw [7, 8] (fun p q wi => ∃ F t : Nat, F ≤ s.size + 1 ∧ t ≤ s.size ∧ p = .int .i64 ((F : Int) - 1) ∧ q = .int .i64 t ∧ Hid (Inner s.data.toList c F t) ∧ Below w.heap.size w wi) (fun p _ _ => (intOf p + 1).toNat)
        case atStart => exact ⟨x + 1, y, by omega, hyb, by simp, by first | rfl | rw [hyi], hin, hbw⟩
        case round =>
          obtain ⟨F, t, hF, ht, rfl, rfl, hin, hbi⟩ := hrel
          by_cases hF0 : F = 0
          · have hstop := inner_stop hin.out (.inl hF0)
            have hFt := hstop.1
            subst hF0
            have g1 : decide (0 ≤ (((0 : Nat) : Int)) - 1) = false := by decide
            obtain ⟨L, hL⟩ : ∃ L : Nat, L = t - 0 := ⟨_, rfl⟩
            have hLt : L = t := by omega
            have hmx := Lib.hid hstop.2
            rw [← hL] at hmx
            clear hstop hL
            subst hLt
            go_wp2
            go_quiet (fail)
            go_wp2
            all_goals
              go_roundw
              case rel =>
                first
                  | exact ⟨c + 1, 0, L, by omega, by omega, by omega, by go_num, by first | rfl | go_num, by first | rfl | go_num, best_take hb.out hmx.out (by omega) (fun h => by have := hmx.out.1; omega), below_drewN hbi _⟩
                  | exact ⟨c + 1, a, m, by omega, by omega, by omega, by go_num, by first | rfl | go_num, by first | rfl | go_num, best_leave hb.out hmx.out (by omega) (fun h => by have := hmx.out.1; omega), below_drewN hbi _⟩
              case measure => simp [intOf] <;> omega
          · obtain ⟨f, rfl⟩ : ∃ f, F = f + 1 := ⟨F - 1, by omega⟩
            have hfi : (((f + 1 : Nat) : Int)) - 1 = (f : Int) := by omega
            rw [hfi]
            have g1 : decide (0 ≤ (f : Int)) = true := by simp
            have hfl := inner_f hin.out
            rw [← hl.out] at hfl
            have b1 : (f : Int) < (s.size : Int) := by omega
            by_cases htn : t < s.size
            · have g2 : decide ((t : Int) < (s.size : Int)) = true := by simp; omega
              have b2 : (t : Int) < (s.size : Int) := by omega
              cases hee : ((s[f].toNat : Int) == (s[t].toNat : Int))
              · have hstop := inner_stop hin.out (.inr (.inr (by rw [show f + 1 - 1 = f by omega, gsome s f hfl, gsome s t htn]; intro h; rw [Option.some.inj h] at hee; simp at hee)))
                have hFt := hstop.1
                obtain ⟨L, hL⟩ : ∃ L : Nat, L = t - (f + 1) := ⟨_, rfl⟩
                have hmx := Lib.hid hstop.2
                rw [← hL] at hmx
                have hLi : (t : Int) - (f : Int) - 1 = (L : Int) := by omega
                have hLb : L ≤ s.size := by omega
                clear hstop hL
                go_wp2
                go_quiet (fail)
                go_wp2
                all_goals
                  go_roundw
                  case rel =>
                    first
                      | exact ⟨c + 1, f + 1, L, by omega, by omega, by omega, by go_num, by first | rfl | go_num, by first | rfl | go_num, best_take hb.out hmx.out (by omega) (fun h => by have := hmx.out.1; omega), below_drewN hbi _⟩
                      | exact ⟨c + 1, a, m, by omega, by omega, by omega, by go_num, by first | rfl | go_num, by first | rfl | go_num, best_leave hb.out hmx.out (by omega) (fun h => by have := hmx.out.1; omega), below_drewN hbi _⟩
                  case measure => simp [intOf] <;> omega
              · have hnx := Lib.hid (inner_step hin.out (by rw [← hl.out]; exact htn) (by rw [gsome s f hfl, gsome s t htn, binj (a := s[f]) (b := s[t]) (by simpa using hee)]))
                go_wp2
                go_quiet (fail)
                go_wp2
                go_roundw
                case rel => exact ⟨f, t + 1, by omega, by omega, rfl, by go_num, hnx, below_drewN hbi _⟩
                case measure => simp [intOf] <;> omega
            · have g2 : decide ((t : Int) < (s.size : Int)) = false := by simp; omega
              have hstop := inner_stop hin.out (.inr (.inl (by rw [← hl.out]; omega)))
              have hFt := hstop.1
              obtain ⟨L, hL⟩ : ∃ L : Nat, L = t - (f + 1) := ⟨_, rfl⟩
              have hmx := Lib.hid hstop.2
              rw [← hL] at hmx
              have hLi : (t : Int) - (f : Int) - 1 = (L : Int) := by omega
              have hLb : L ≤ s.size := by omega
              clear hstop hL
              go_wp2
              go_quiet (fail)
              go_wp2
              all_goals
                go_roundw
                case rel =>
                  first
                    | exact ⟨c + 1, f + 1, L, by omega, by omega, by omega, by go_num, by first | rfl | go_num, by first | rfl | go_num, best_take hb.out hmx.out (by omega) (fun h => by have := hmx.out.1; omega), below_drewN hbi _⟩
                    | exact ⟨c + 1, a, m, by omega, by omega, by omega, by go_num, by first | rfl | go_num, by first | rfl | go_num, best_leave hb.out hmx.out (by omega) (fun h => by have := hmx.out.1; omega), below_drewN hbi _⟩
                case measure => simp [intOf] <;> omega
      · have hfin : Hid (lpW s a m) := .inr ⟨HW.out, a, m, rfl, rfl, best_end (by rw [← hl.out, show 2 * s.size = c by omega]; exact hb.out)⟩
        go_wp2
        go_ret2
        exact retLp_mk hfin.out hbw

def NoLonger (l : List UInt8) (n : Nat) : Prop := ∀ i k, n < k → ¬ PalAt l i k
def NoneTo (l : List UInt8) (n i : Nat) : Prop := ∀ j, j < i → ¬ PalAt l j n
theorem noneTo_succ {l : List UInt8} {n i : Nat} (h : NoneTo l n i) (hi : ¬ PalAt l i n) : NoneTo l n (i + 1) := by
  intro j hj
  rcases Nat.lt_succ_iff_lt_or_eq.1 hj with hj | rfl
  · exact h j hj
  · exact hi
theorem noLonger_start (l : List UInt8) : NoLonger l l.length := fun i k h hp => by have := hp.1; omega
theorem noLonger_step {l : List UInt8} {n i : Nat} (h : NoLonger l n) (hi : NoneTo l n i) (he : l.length < i + n) : NoLonger l (n - 1) := by
  intro j k hk hp
  rcases Nat.lt_or_ge n k with h1 | h1
  · exact h j k h1 hp
  · obtain rfl : k = n := by omega
    have := hp.1
    exact hi j (by omega) hp
theorem lp_hit {l : List UInt8} {n i : Nat} (h : NoLonger l n) (hi : NoneTo l n i) (h1 : 1 ≤ n) (hp : PalAt l i n) : LpP l i n := by
  refine .inr ⟨h1, hp, fun j k hk hpk => ?_⟩
  rcases Nat.lt_or_ge n k with h2 | h2
  · exact absurd hpk (h j k h2)
  · rcases Nat.lt_or_ge k n with h3 | h3
    · exact .inl h3
    · obtain rfl : k = n := by omega
      refine .inr ⟨rfl, ?_⟩
      rcases Nat.lt_or_ge j i with h4 | h4
      · exact absurd hpk (hi j h4)
      · exact h4
theorem lp_none {l : List UInt8} (h : NoLonger l 0) : LpP l 0 0 := by
  cases l with
  | nil => exact .inl ⟨rfl, rfl, rfl⟩
  | cons c r => exact absurd (palAt_one (l := c :: r) (i := 0) (by simp)) (h 0 1 (by omega))

end Go.Proofs.Ytlmciomoimfajaa
