/- Contract of LyndonParts in the program. Conditions: strings of at most 2^30 bytes. -/
import Derived.Test.YtlmciomoimfajaaF2
namespace Go.Proofs.Ytlmciomoimfajaa
open Go.RowKit
set_option linter.unusedVariables false

def sizeV : Value → Nat
  | .string b => b.size
  | _ => 0
theorem ext_all (s : ByteArray) : s.extract 0 s.size = s := by
  apply str_inj
  rw [ext_data, List.drop_zero, Nat.sub_zero, List.take_of_length_le (by rw [← size_len]; exact Nat.le_refl _)]
theorem ext_ext1 (s : ByteArray) (k n : Nat) (h : k + n ≤ s.size) : (s.extract k s.size).extract 0 n = s.extract k (k + n) := by
  apply str_inj
  rw [ext_data, ext_data, ext_data, List.drop_zero, List.take_take]
  congr 1; omega
theorem ext_ext2 (s : ByteArray) (k n : Nat) (h : k + n ≤ s.size) : (s.extract k s.size).extract n (s.size - k) = s.extract (k + n) s.size := by
  apply str_inj
  rw [ext_data, ext_data, ext_data, List.drop_take, List.drop_drop, List.take_take]
  congr 1; omega
theorem fb_at (t : ByteArray) (x : Nat) (h : x < t.size) : fb t.data.toList x = t[x].toNat := by
  unfold fb
  rw [List.getD_eq_getElem?_getD, get_some t x h]; rfl
theorem fAt_get {s t : ByteArray} {k x : Nat} (ht : t = s.extract k s.size) (hk : k ≤ s.size) (h : x < t.size) : t[x].toNat = fAt s k x := by
  have hsz : t.size = s.size - k := by rw [ht, ext_size s k s.size (Nat.le_refl _) hk]
  rw [← fb_at t x h, ht]
  exact fb_ext s k s.size x (by omega)

set_option maxHeartbeats 4000000 in
theorem lyndonParts_i (s : ByteArray) (w : World) (hs : s.size ≤ 1073741000) :
    Calls Try.prog 33 #[.string s] w (RetS (partsW s) w) := by
  cases hw : wordL s.data.toList
  · have hr : Hid (partsW s = []) := by simp [partsW, hw, Hid]
    go_enter Try.func33, Try.ntmps33
    go_wp2_with (go_at_call 85; refine (isWord_c _ _ (by unfold maxLen; omega)).mono ?_; rintro e w' ⟨rfl, rfl⟩)
    go_ret
    exact retS_nil _ _ _ hr.out (Below.refl _ _)
  · obtain ⟨R, hR⟩ : ∃ R, R = partsW s := ⟨_, rfl⟩
    have hr : Hid (R = partsW s) := hR
    have hst : Hid ([] ++ partsG s (s.size + 1) 0 = R) := by unfold Hid; rw [hR, partsW, if_pos hw]; rfl
    have hst0 : Hid (OwnS (w.alloc (.cells #[] 9)) w.heap.size (.slice (some ⟨w.heap.size, 0, none⟩) 0 0) []) := ownS_empty w (Nat.le_refl _)
    have hsz := wordL_size hw
    have h1 := fun W => Lib.hid (isWord_c s W (by unfold maxLen; omega))
    rw [hw] at h1
    clear hR hw
    go_enter Try.func33, Try.ntmps33
    go_wp2_with fail
    refine (h1 _).out.mono ?_
    rintro e w' ⟨rfl, rfl⟩
    go_wp2_with fail
    go_loopw [0, 3] (fun ws o wr => ∃ (k f : Nat) (acc : List ByteArray) (v : Value) (t : ByteArray), k ≤ s.size ∧ s.size < f + k ∧ acc.length ≤ k ∧ ws = .string t ∧ v = o ∧ Hid (t = s.extract k s.size) ∧ Hid (acc ++ partsG s f k = R) ∧ Hid (OwnS wr w.heap.size v acc) ∧ Below w.heap.size w wr) (fun ws _ _ => sizeV ws)
    case atStart => exact ⟨0, s.size + 1, [], _, s, by omega, by omega, by simp, rfl, rfl, (ext_all s).symm, hst, hst0, (Below.refl _ _).alloc (Nat.le_refl _) _⟩
    case round =>
      obtain ⟨k, f, acc, v, t, hk, hf, hacc, rfl, rfl, HT, hR, hown, hbw⟩ := hrel
      have tsz : t.size = s.size - k := by rw [HT.out, ext_size s k s.size (Nat.le_refl _) hk]
      have TSZ := Lib.hid tsz
      by_cases hlt : k < s.size
      · have hte : t.toList.isEmpty = false := isEmpty_no (by omega)
        have hte2 : (t.toList == (⟨#[]⟩ : ByteArray).toList) = false := by
          have := hte
          rw [Lib.toList_data] at this ⊢
          rw [Lib.toList_data]
          cases hl : t.data.toList with
          | nil => rw [hl] at this; cases this
          | cons _ _ => rfl
        have hts : 1 ≤ t.size := by omega
        have htb : t.size ≤ 400 := by omega
        have hd1 : Hid (Duv (fAt s k) 1 1 (s.size - k)) := duv_one _ (by omega)
        clear tsz
        go_wp2
        go_loopw [4, 5] (fun i j wi => ∃ (x n K d : Nat), x < K ∧ K ≤ t.size ∧ i = .int .i64 x ∧ j = .int .i64 K ∧ Hid (K = x + n) ∧ Hid (Duv (fAt s k) K n (s.size - k)) ∧ wi = wr.drewN d) (fun _ j _ => t.size - (intOf j).toNat)
        case atStart => exact ⟨0, 1, 1, 0, by omega, hts, rfl, rfl, rfl, hd1, rfl⟩
        case round =>
          obtain ⟨x, n, K, d, hxK, hKt, rfl, rfl, hK, hdv, rfl⟩ := hrel
          by_cases hlk : K < t.size
          · have b1 : (K : Int) < (t.size : Int) := by omega
            have b2 : (x : Int) < (t.size : Int) := by omega
            have hxt : x < t.size := by omega
            have gx := fAt_get HT.out hk hxt
            have gK := fAt_get HT.out hk hlk
            have hKx : Hid (K - n = x) := by unfold Hid; have := hK.out; omega
            have hKN : Hid (K < s.size - k) := by unfold Hid; have := TSZ.out; omega
            rcases Nat.lt_trichotomy t[x].toNat t[K].toNat with hc | hc | hc
            · have d1 : decide (t[x].toNat ≤ t[K].toNat) = true := decide_eq_true (by omega)
              have d1p : t[x].toNat ≤ t[K].toNat := by omega
              have d2 : decide (t[x].toNat < t[K].toNat) = true := decide_eq_true (by omega)
              have d2p : t[x].toNat < t[K].toNat := by omega
              have hnx := Lib.hid (duv_lt hdv.out hKN.out (by rw [hKx.out, ← gx, ← gK]; exact hc))
              clear gx gK hc
              go_wp2
              go_quiet (fail)
              go_wp2
              go_quiet (fail)
              go_wp2
              go_roundw
              case rel => exact ⟨0, K + 1, K + 1, _, by omega, by omega, by first | rfl | go_num, by go_num, by unfold Hid; omega, hnx, by first | rfl | (repeat rw [World.drewN_drewN])⟩
              case measure => simp [intOf] <;> omega
            · have d1 : decide (t[x].toNat ≤ t[K].toNat) = true := decide_eq_true (by omega)
              have d1p : t[x].toNat ≤ t[K].toNat := by omega
              have d2 : decide (t[x].toNat < t[K].toNat) = false := decide_eq_false (by omega)
              have d2p : ¬ t[x].toNat < t[K].toNat := by omega
              have hnx := Lib.hid (duv_eq hdv.out hKN.out (by rw [hKx.out, ← gx, ← gK]; exact hc))
              clear gx gK hc
              go_wp2
              go_quiet (fail)
              go_wp2
              go_quiet (fail)
              go_wp2
              go_roundw
              case rel => exact ⟨x + 1, n, K + 1, _, by omega, by omega, by go_num, by go_num, by have := hK.out; unfold Hid; omega, hnx, by first | rfl | (repeat rw [World.drewN_drewN])⟩
              case measure => simp [intOf] <;> omega
            · have d1 : decide (t[x].toNat ≤ t[K].toNat) = false := decide_eq_false (by omega)
              have d1p : ¬ t[x].toNat ≤ t[K].toNat := by omega
              have hstop : Hid (DuvStop (fAt s k) K n (s.size - k)) := .inr (by rw [hKx.out, ← gx, ← gK]; exact hc)
              clear gx gK hc
              go_wp2
              go_quiet (fail)
              have HN := hdv.out.n1
              have HK2 := hdv.out.nk
              have hst2 := Lib.hid (And.intro hdv.out hstop.out)
              have hni : (K : Int) - (x : Int) = (n : Int) := by have := hK.out; omega
              have hniw : IntKind.i64.wrap (n : Int) = (n : Int) := IntWalk.i64_in _ (by omega)
              have hxK : Hid ((x : Int) = (K : Int) - (n : Int)) := by unfold Hid; omega
              have hkK : k + K ≤ s.size := by have := TSZ.out; omega
              go_wp2
              go_loopw [0, 3, 4] (fun ws o i wi => ∃ (k' y f' : Nat) (acc' : List ByteArray) (v' : Value) (tt : ByteArray), k' ≤ s.size ∧ s.size < f' + k' ∧ acc'.length ≤ k' ∧ k' + y ≤ s.size ∧ k ≤ k' ∧ (n ≤ y ∨ k < k') ∧ ws = .string tt ∧ v' = o ∧ i = .int .i64 ((y : Int) - (n : Int)) ∧ Hid (tt = s.extract k' s.size) ∧ Hid (n ≤ y → Duv (fAt s k') y n (s.size - k') ∧ DuvStop (fAt s k') y n (s.size - k')) ∧ Hid (acc' ++ partsG s f' k' = R) ∧ Hid (OwnS wi w.heap.size v' acc') ∧ Below w.heap.size w wi) (fun _ _ i _ => (intOf i + n).toNat)
              case atStart => exact ⟨k, K, f, acc, v, t, hk, hf, hacc, hkK, Nat.le_refl _, .inl HK2, rfl, rfl, congrArg (Value.int .i64) hxK.out, HT, fun _ => hst2.out, hR, hown, below_drewN hbw _⟩
              case round =>
                obtain ⟨k', y, f', acc', v', tt, hk', hf', hacc', hky, hkk, hor, rfl, rfl, rfl, htt, hdv', hR', hown', hbw'⟩ := hrel
                have hsz' := hbw'.size
                by_cases hny : n ≤ y
                · obtain ⟨D, S⟩ := hdv'.out hny
                  have hL := lon_duv D S
                  have hlt' : k' < s.size := by omega
                  have hnx := parts_step hR'.out hlt' hf'
                  rw [hL] at hnx
                  have HNX := Lib.hid hnx
                  have hd2 : Hid (n ≤ y - n → Duv (fAt s (k' + n)) (y - n) n (s.size - (k' + n)) ∧ DuvStop (fAt s (k' + n)) (y - n) n (s.size - (k' + n))) := by
                    intro h2
                    have := duv_drop D S (by omega)
                    rw [show s.size - k' - n = s.size - (k' + n) by omega] at this
                    have e : (fun t => fAt s k' (n + t)) = fAt s (k' + n) := by funext t; unfold fAt; rw [Nat.add_assoc]
                    rw [e] at this; exact this
                  have tsz : tt.size = s.size - k' := by rw [htt.out, ext_size s k' s.size (Nat.le_refl _) hk']
                  have X1 : tt.extract 0 n = s.extract k' (k' + n) := by rw [htt.out]; exact ext_ext1 s k' n (by omega)
                  have X2 : tt.extract n tt.size = s.extract (k' + n) s.size := by rw [tsz, htt.out]; exact ext_ext2 s k' n (by omega)
                  have hNn : n ≤ tt.size := by omega
                  have b1 : (n : Int) ≤ (tt.size : Int) := by omega
                  have b3 : (n : Int) ≤ (y : Int) := by omega
                  have b2 : decide (0 ≤ (y : Int) - (n : Int)) = true := decide_eq_true (by omega)
                  have b4 : IntKind.i64.wrap ((y : Int) - (n : Int) - (n : Int)) = (y : Int) - (n : Int) - (n : Int) := IntWalk.i64_in _ (by omega)
                  have hyn : Hid ((y : Int) - (n : Int) - (n : Int) = ((y - n : Nat) : Int) - (n : Int)) := by unfold Hid; omega
                  have hb' : k' + n ≤ s.size := by omega
                  have hq1 : Hid (s.size < f' - 1 + (k' + n)) := by unfold Hid; omega
                  have hq2 : Hid (k' + n + (y - n) ≤ s.size) := by unfold Hid; omega
                  clear D S hL hdv' hnx tsz
                  go_wp2_with (at_builtin; refine appS rfl _ _ rfl w.heap.size _ acc' rfl (by exact hown'.out) _ rfl (by omega) (by exact hsz') ?_; intro v2 w2 hown2 hg2)
                  go_roundw
                  case rel => exact ⟨k' + n, y - n, f' - 1, acc' ++ [s.extract k' (k' + n)], _, s.extract (k' + n) s.size, hb', hq1.out, by simp <;> omega, hq2.out, by omega, .inr (by omega), rfl, rfl, congrArg (Value.int .i64) hyn.out, rfl, hd2, HNX, hown2, below_app hbw' hown'.out hg2 hsz'⟩
                  case measure => simp [intOf] <;> omega
                · have hkk2 : k < k' := by omega
                  have b2 : decide (0 ≤ (y : Int) - (n : Int)) = false := decide_eq_false (by omega)
                  have b3 : (y : Int) < (n : Int) := by omega
                  have hms : Hid (tt.size < t.size) := by unfold Hid; rw [htt.out, HT.out, ext_size s k' s.size (Nat.le_refl _) hk', ext_size s k s.size (Nat.le_refl _) hk]; omega
                  go_wp2
                  go_roundw
                  case rel => exact ⟨k', f', acc', v', tt, hk', hf', hacc', rfl, rfl, htt, hR', hown', hbw'⟩
                  case measure => exact hms.out
          · have hstop : Hid (DuvStop (fAt s k) K n (s.size - k)) := .inl (by have := TSZ.out; omega)
            have b1 : decide ((K : Int) < (t.size : Int)) = false := decide_eq_false (by omega)
            go_wp2
            go_quiet (fail)
            have HN := hdv.out.n1
            have HK2 := hdv.out.nk
            have hst2 := Lib.hid (And.intro hdv.out hstop.out)
            have hni : (K : Int) - (x : Int) = (n : Int) := by have := hK.out; omega
            have hniw : IntKind.i64.wrap (n : Int) = (n : Int) := IntWalk.i64_in _ (by omega)
            have hxK : Hid ((x : Int) = (K : Int) - (n : Int)) := by unfold Hid; omega
            have hkK : k + K ≤ s.size := by have := TSZ.out; omega
            go_wp2
            go_loopw [0, 3, 4] (fun ws o i wi => ∃ (k' y f' : Nat) (acc' : List ByteArray) (v' : Value) (tt : ByteArray), k' ≤ s.size ∧ s.size < f' + k' ∧ acc'.length ≤ k' ∧ k' + y ≤ s.size ∧ k ≤ k' ∧ (n ≤ y ∨ k < k') ∧ ws = .string tt ∧ v' = o ∧ i = .int .i64 ((y : Int) - (n : Int)) ∧ Hid (tt = s.extract k' s.size) ∧ Hid (n ≤ y → Duv (fAt s k') y n (s.size - k') ∧ DuvStop (fAt s k') y n (s.size - k')) ∧ Hid (acc' ++ partsG s f' k' = R) ∧ Hid (OwnS wi w.heap.size v' acc') ∧ Below w.heap.size w wi) (fun _ _ i _ => (intOf i + n).toNat)
            case atStart => exact ⟨k, K, f, acc, v, t, hk, hf, hacc, hkK, Nat.le_refl _, .inl HK2, rfl, rfl, congrArg (Value.int .i64) hxK.out, HT, fun _ => hst2.out, hR, hown, below_drewN hbw _⟩
            case round =>
              obtain ⟨k', y, f', acc', v', tt, hk', hf', hacc', hky, hkk, hor, rfl, rfl, rfl, htt, hdv', hR', hown', hbw'⟩ := hrel
              have hsz' := hbw'.size
              by_cases hny : n ≤ y
              · obtain ⟨D, S⟩ := hdv'.out hny
                have hL := lon_duv D S
                have hlt' : k' < s.size := by omega
                have hnx := parts_step hR'.out hlt' hf'
                rw [hL] at hnx
                have HNX := Lib.hid hnx
                have hd2 : Hid (n ≤ y - n → Duv (fAt s (k' + n)) (y - n) n (s.size - (k' + n)) ∧ DuvStop (fAt s (k' + n)) (y - n) n (s.size - (k' + n))) := by
                  intro h2
                  have := duv_drop D S (by omega)
                  rw [show s.size - k' - n = s.size - (k' + n) by omega] at this
                  have e : (fun t => fAt s k' (n + t)) = fAt s (k' + n) := by funext t; unfold fAt; rw [Nat.add_assoc]
                  rw [e] at this; exact this
                have tsz : tt.size = s.size - k' := by rw [htt.out, ext_size s k' s.size (Nat.le_refl _) hk']
                have X1 : tt.extract 0 n = s.extract k' (k' + n) := by rw [htt.out]; exact ext_ext1 s k' n (by omega)
                have X2 : tt.extract n tt.size = s.extract (k' + n) s.size := by rw [tsz, htt.out]; exact ext_ext2 s k' n (by omega)
                have hNn : n ≤ tt.size := by omega
                have b1 : (n : Int) ≤ (tt.size : Int) := by omega
                have b3 : (n : Int) ≤ (y : Int) := by omega
                have b2 : decide (0 ≤ (y : Int) - (n : Int)) = true := decide_eq_true (by omega)
                have b4 : IntKind.i64.wrap ((y : Int) - (n : Int) - (n : Int)) = (y : Int) - (n : Int) - (n : Int) := IntWalk.i64_in _ (by omega)
                have hyn : Hid ((y : Int) - (n : Int) - (n : Int) = ((y - n : Nat) : Int) - (n : Int)) := by unfold Hid; omega
                have hb' : k' + n ≤ s.size := by omega
                have hq1 : Hid (s.size < f' - 1 + (k' + n)) := by unfold Hid; omega
                have hq2 : Hid (k' + n + (y - n) ≤ s.size) := by unfold Hid; omega
                clear D S hL hdv' hnx tsz
                go_wp2_with (at_builtin; refine appS rfl _ _ rfl w.heap.size _ acc' rfl (by exact hown'.out) _ rfl (by omega) (by exact hsz') ?_; intro v2 w2 hown2 hg2)
                go_roundw
                case rel => exact ⟨k' + n, y - n, f' - 1, acc' ++ [s.extract k' (k' + n)], _, s.extract (k' + n) s.size, hb', hq1.out, by simp <;> omega, hq2.out, by omega, .inr (by omega), rfl, rfl, congrArg (Value.int .i64) hyn.out, rfl, hd2, HNX, hown2, below_app hbw' hown'.out hg2 hsz'⟩
                case measure => simp [intOf] <;> omega
              · have hkk2 : k < k' := by omega
                have b2 : decide (0 ≤ (y : Int) - (n : Int)) = false := decide_eq_false (by omega)
                have b3 : (y : Int) < (n : Int) := by omega
                have hms : Hid (tt.size < t.size) := by unfold Hid; rw [htt.out, HT.out, ext_size s k' s.size (Nat.le_refl _) hk', ext_size s k s.size (Nat.le_refl _) hk]; omega
                go_wp2
                go_roundw
                case rel => exact ⟨k', f', acc', v', tt, hk', hf', hacc', rfl, rfl, htt, hR', hown', hbw'⟩
                case measure => exact hms.out
      · have hte : t.toList.isEmpty = true := (isEmpty_iff t).2 (by omega)
        have hte2 : (t.toList == (⟨#[]⟩ : ByteArray).toList) = true := by
          have := hte
          rw [Lib.toList_data] at this ⊢
          rw [Lib.toList_data, List.isEmpty_iff.1 this]; rfl
        have hfin : Hid (acc = partsW s) := by unfold Hid; rw [← hr.out]; exact parts_end hR.out (by omega)
        clear tsz
        go_wp2
        go_ret
        exact retS_mk hown.out hfin.out hbw
end Go.Proofs.Ytlmciomoimfajaa
