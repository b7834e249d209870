/- Contracts of FractionAt in the program and in the reference: both read the path letter by letter ('fracGo'). Conditions: none (a longer path is refused at once). -/
import Derived.Test.YtppbjblnbfphnaaB0
namespace Go.Proofs.Ytppbjblnbfphnaa
open Go.RowKit
set_option linter.unusedVariables false

/-- what is answered for the rest of a path, from two neighbors a/b, c/d on -/
def fracGo : List UInt8 → Int → Int → Int → Int → Int × Int × Bool
  | [], a, b, c, d => (a + c, b + d, true)
  | x :: r, a, b, c, d =>
    if (x.toNat : Int) = 76 then (if 1000000000 < a + (a + c) ∨ 1000000000 < b + (b + d) then (0, 0, false) else fracGo r a b (a + c) (b + d))
    else if (x.toNat : Int) = 82 then (if 1000000000 < a + c + c ∨ 1000000000 < b + d + d then (0, 0, false) else fracGo r (a + c) (b + d) c d)
    else (0, 0, false)
def fracAt (s : ByteArray) : Int × Int × Bool := if 400 < s.size then (0, 0, false) else fracGo s.data.toList 0 1 1 0
def fracV (r : Int × Int × Bool) : Value := .tuple #[.int .i64 r.1, .int .i64 r.2.1, .bool r.2.2]
theorem ret_frac {a b : Int} {c : Bool} {R : Int × Int × Bool} (h : (a, b, c) = R) : Ending.returned (.tuple #[.int .i64 a, .int .i64 b, .bool c]) = .returned (.tuple #[.int .i64 R.1, .int .i64 R.2.1, .bool R.2.2]) := by subst h; rfl

theorem frac_L {x : UInt8} {r : List UInt8} {a b c d : Int} (hx : (x.toNat : Int) = 76) (h1 : a + (a + c) ≤ 1000000000) (h2 : b + (b + d) ≤ 1000000000) : fracGo (x :: r) a b c d = fracGo r a b (a + c) (b + d) := by
  rw [fracGo, if_pos hx, if_neg (by omega)]
theorem frac_L_big {x : UInt8} {r : List UInt8} {a b c d : Int} (hx : (x.toNat : Int) = 76) (h : 1000000000 < a + (a + c) ∨ 1000000000 < b + (b + d)) : fracGo (x :: r) a b c d = (0, 0, false) := by
  rw [fracGo, if_pos hx, if_pos h]
theorem frac_R {x : UInt8} {r : List UInt8} {a b c d : Int} (hx : (x.toNat : Int) = 82) (h1 : a + c + c ≤ 1000000000) (h2 : b + d + d ≤ 1000000000) : fracGo (x :: r) a b c d = fracGo r (a + c) (b + d) c d := by
  rw [fracGo, if_neg (by omega), if_pos hx, if_neg (by omega)]
theorem frac_R_big {x : UInt8} {r : List UInt8} {a b c d : Int} (hx : (x.toNat : Int) = 82) (h : 1000000000 < a + c + c ∨ 1000000000 < b + d + d) : fracGo (x :: r) a b c d = (0, 0, false) := by
  rw [fracGo, if_neg (by omega), if_pos hx, if_pos h]
theorem frac_no {x : UInt8} {r : List UInt8} {a b c d : Int} (h1 : ¬ (x.toNat : Int) = 76) (h2 : ¬ (x.toNat : Int) = 82) : fracGo (x :: r) a b c d = (0, 0, false) := by
  rw [fracGo, if_neg h1, if_neg h2]

set_option maxHeartbeats 1000000 in
theorem fractionAt_i (s : ByteArray) (w : World) (hs : s.size ≤ maxLen) :
    Calls Try.prog 20 #[.string s] w fun e w' => e = .returned (.tuple #[.int .i64 (fracAt s).1, .int .i64 (fracAt s).2.1, .bool (fracAt s).2.2]) ∧ w = w' := by
  unfold maxLen at hs
  by_cases h4 : 400 < s.size
  · have hr : Hid (fracAt s = (0, 0, false)) := if_pos h4
    go_enter Try.func20, Try.ntmps20
    go_wp2
    go_ret3
    exact ⟨ret_frac (by rw [hr.out]), rfl⟩
  · obtain ⟨R, hR⟩ : ∃ R, R = fracAt s := ⟨_, rfl⟩
    have hr : Hid (fracGo (s.data.toList.drop 0) 0 1 1 0 = R) := by rw [hR, fracAt, if_neg h4]; rfl
    rw [← hR]
    clear hR
    go_enter Try.func20, Try.ntmps20
    go_wp2
    go_loop [5, 6, 7, 8, 15] (fun a b c d i => ∃ (k : Nat) (a' b' c' d' : Int), k ≤ s.size ∧ i = .int .i64 k ∧ a = .int .i64 a' ∧ b = .int .i64 b' ∧ c = .int .i64 c' ∧ d = .int .i64 d' ∧ 0 ≤ a' ∧ 0 ≤ b' ∧ 0 ≤ c' ∧ 0 ≤ d' ∧ a' + c' ≤ 1000000000 ∧ b' + d' ≤ 1000000000 ∧ Hid (fracGo (s.data.toList.drop k) a' b' c' d' = R)) (fun _ _ _ _ i => s.size - (intOf i).toNat)
    case atStart => exact ⟨0, 0, 1, 1, 0, Nat.zero_le _, rfl, rfl, rfl, rfl, rfl, by omega, by omega, by omega, by omega, by omega, by omega, hr⟩
    case round =>
      obtain ⟨k, a, b, c, d, hk, rfl, rfl, rfl, rfl, rfl, ha, hb, hc, hd, hac, hbd, hst⟩ := hrel
      by_cases hlt : k < s.size
      · have hdc := Lib.hid (drop_cons s k hlt)
        by_cases hL : (s[k].toNat : Int) = 76
        · have hL' : ((s[k].toNat : Int) == 76) = true := by simp [hL]
          have hLh := Lib.hid hL
          clear hL
          by_cases h1 : 1000000000 < a + (a + c)
          · go_wp2
            go_ret3
            exact ⟨ret_frac (by rw [← hst.out, hdc.out, frac_L_big hLh.out (.inl h1)]), rfl⟩
          · by_cases h2 : 1000000000 < b + (b + d)
            · go_wp2
              go_ret3
              exact ⟨ret_frac (by rw [← hst.out, hdc.out, frac_L_big hLh.out (.inr h2)]), rfl⟩
            · go_wp2
              go_round
              case rel => exact ⟨k + 1, a, b, a + c, b + d, by omega, by go_num, rfl, rfl, rfl, rfl, by omega, by omega, by omega, by omega, by omega, by omega, by rw [← hst.out, hdc.out, frac_L hLh.out (by omega) (by omega)]; rfl⟩
              case measure => simp [intOf] <;> omega
        · have hL' : ((s[k].toNat : Int) == 76) = false := by simpa using hL
          have hLh := Lib.hid hL
          clear hL
          by_cases hR : (s[k].toNat : Int) = 82
          · have hR' : ((s[k].toNat : Int) == 82) = true := by simp [hR]
            have hRh := Lib.hid hR
            clear hR
            by_cases h1 : 1000000000 < a + c + c
            · go_wp2
              go_ret3
              exact ⟨ret_frac (by rw [← hst.out, hdc.out, frac_R_big hRh.out (.inl h1)]), rfl⟩
            · by_cases h2 : 1000000000 < b + d + d
              · go_wp2
                go_ret3
                exact ⟨ret_frac (by rw [← hst.out, hdc.out, frac_R_big hRh.out (.inr h2)]), rfl⟩
              · go_wp2
                go_round
                case rel => exact ⟨k + 1, a + c, b + d, c, d, by omega, by go_num, rfl, rfl, rfl, rfl, by omega, by omega, by omega, by omega, by omega, by omega, by rw [← hst.out, hdc.out, frac_R hRh.out (by omega) (by omega)]; rfl⟩
                case measure => simp [intOf] <;> omega
          · have hR' : ((s[k].toNat : Int) == 82) = false := by simpa using hR
            have hRh := Lib.hid hR
            clear hR
            go_wp2
            go_ret3
            exact ⟨ret_frac (by rw [← hst.out, hdc.out, frac_no hLh.out hRh.out]), rfl⟩
      · have hkm : k = s.size := by omega
        subst hkm
        have hnil : s.data.toList.drop s.size = [] := List.drop_of_length_le (by rw [← size_len]; exact Nat.le_refl _)
        have hfin := Lib.hid hst.out
        rw [hnil] at hfin
        clear hst hnil
        go_wp2
        go_ret3
        exact ⟨ret_frac (by rw [← hfin.out]; rfl), rfl⟩
set_option maxHeartbeats 1000000 in
theorem fractionAt_s (s : ByteArray) (w : World) (hs : s.size ≤ maxLen) :
    Calls Try.prog 19 #[.string s] w fun e w' => e = .returned (.tuple #[.int .i64 (fracAt s).1, .int .i64 (fracAt s).2.1, .bool (fracAt s).2.2]) ∧ w = w' := by
  unfold maxLen at hs
  by_cases h4 : 400 < s.size
  · have hr : Hid (fracAt s = (0, 0, false)) := if_pos h4
    go_enter Try.func19, Try.ntmps19
    go_wp2
    go_ret3
    exact ⟨ret_frac (by rw [hr.out]), rfl⟩
  · obtain ⟨R, hR⟩ : ∃ R, R = fracAt s := ⟨_, rfl⟩
    have hr : Hid (fracGo (s.data.toList.drop 0) 0 1 1 0 = R) := by rw [hR, fracAt, if_neg h4]; rfl
    rw [← hR]
    clear hR
    go_enter Try.func19, Try.ntmps19
    go_wp2
    go_loop [5, 6, 7, 8, 9] (fun a b c d i => ∃ (k : Nat) (a' b' c' d' : Int), k ≤ s.size ∧ i = .int .i64 k ∧ a = .int .i64 a' ∧ b = .int .i64 b' ∧ c = .int .i64 c' ∧ d = .int .i64 d' ∧ 0 ≤ a' ∧ 0 ≤ b' ∧ 0 ≤ c' ∧ 0 ≤ d' ∧ a' + c' ≤ 1000000000 ∧ b' + d' ≤ 1000000000 ∧ Hid (fracGo (s.data.toList.drop k) a' b' c' d' = R)) (fun _ _ _ _ i => s.size - (intOf i).toNat)
    case atStart => exact ⟨0, 0, 1, 1, 0, Nat.zero_le _, rfl, rfl, rfl, rfl, rfl, by omega, by omega, by omega, by omega, by omega, by omega, hr⟩
    case round =>
      obtain ⟨k, a, b, c, d, hk, rfl, rfl, rfl, rfl, rfl, ha, hb, hc, hd, hac, hbd, hst⟩ := hrel
      by_cases hlt : k < s.size
      · have hdc := Lib.hid (drop_cons s k hlt)
        by_cases hL : (s[k].toNat : Int) = 76
        · have hL' : ((s[k].toNat : Int) == 76) = true := by simp [hL]
          have hLh := Lib.hid hL
          clear hL
          by_cases h1 : 1000000000 < a + (a + c)
          · go_wp2
            go_ret3
            exact ⟨ret_frac (by rw [← hst.out, hdc.out, frac_L_big hLh.out (.inl h1)]), rfl⟩
          · by_cases h2 : 1000000000 < b + (b + d)
            · go_wp2
              go_ret3
              exact ⟨ret_frac (by rw [← hst.out, hdc.out, frac_L_big hLh.out (.inr h2)]), rfl⟩
            · go_wp2
              go_round
              case rel => exact ⟨k + 1, a, b, a + c, b + d, by omega, by go_num, rfl, rfl, rfl, rfl, by omega, by omega, by omega, by omega, by omega, by omega, by rw [← hst.out, hdc.out, frac_L hLh.out (by omega) (by omega)]; rfl⟩
              case measure => simp [intOf] <;> omega
        · have hL' : ((s[k].toNat : Int) == 76) = false := by simpa using hL
          have hLh := Lib.hid hL
          clear hL
          by_cases hR : (s[k].toNat : Int) = 82
          · have hR' : ((s[k].toNat : Int) == 82) = true := by simp [hR]
            have hRh := Lib.hid hR
            clear hR
            by_cases h1 : 1000000000 < a + c + c
            · go_wp2
              go_ret3
              exact ⟨ret_frac (by rw [← hst.out, hdc.out, frac_R_big hRh.out (.inl h1)]), rfl⟩
            · by_cases h2 : 1000000000 < b + d + d
              · go_wp2
                go_ret3
                exact ⟨ret_frac (by rw [← hst.out, hdc.out, frac_R_big hRh.out (.inr h2)]), rfl⟩
              · go_wp2
                go_round
                case rel => exact ⟨k + 1, a + c, b + d, c, d, by omega, by go_num, rfl, rfl, rfl, rfl, by omega, by omega, by omega, by omega, by omega, by omega, by rw [← hst.out, hdc.out, frac_R hRh.out (by omega) (by omega)]; rfl⟩
                case measure => simp [intOf] <;> omega
          · have hR' : ((s[k].toNat : Int) == 82) = false := by simpa using hR
            have hRh := Lib.hid hR
            clear hR
            go_wp2
            go_ret3
            exact ⟨ret_frac (by rw [← hst.out, hdc.out, frac_no hLh.out hRh.out]), rfl⟩
      · have hkm : k = s.size := by omega
        subst hkm
        have hnil : s.data.toList.drop s.size = [] := List.drop_of_length_le (by rw [← size_len]; exact Nat.le_refl _)
        have hfin := Lib.hid hst.out
        rw [hnil] at hfin
        clear hst hnil
        go_wp2
        go_ret3
        exact ⟨ret_frac (by rw [← hfin.out]; rfl), rfl⟩


theorem lawFractionAt_w (s : ByteArray) (w : World) (w0 : s.size ≤ maxLen) :
    Calls Try.prog 8 #[.string s] w fun e w' => e = .returned (.bool true) ∧ Below w.heap.size w w' := by
  have w0' := w0
  unfold maxLen at w0
  by_cases hs : 1048576 < s.size
  · go_enter Try.func8, Try.ntmps8
    go_wp2
    go_ret
    exact ⟨rfl, Below.refl _ _⟩
  · go_enter Try.func8, Try.ntmps8
    go_wp2_with (first | (go_at_call 19; refine (fractionAt_s _ _ w0').mono ?_; rintro e w' ⟨rfl, rfl⟩) | (go_at_call 20; refine (fractionAt_i _ _ w0').mono ?_; rintro e w' ⟨rfl, rfl⟩))
    go_ret
    exact ⟨rfl, Below.refl _ _⟩
end Go.Proofs.Ytppbjblnbfphnaa
