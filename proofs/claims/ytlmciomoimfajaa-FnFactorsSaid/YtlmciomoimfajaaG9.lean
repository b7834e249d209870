/- Contracts of DirectedWord and DirectionOf in the program and in the reference. Conditions: strings of at most 2^20 bytes. -/
import Derived.Test.YtlmciomoimfajaaG8
import Derived.Test.YtlmciomoimfajaaG5
import Derived.Lib.OthersKept
namespace Go.Proofs.Ytlmciomoimfajaa
open Go.RowKit
set_option linter.unusedVariables false

/-! ### plain -/
def dwGo : List UInt8 → List UInt8 → Option (List UInt8)
  | [], v => some v
  | c :: r, v => if wordL (closeL (v ++ [c])) = true then dwGo r (closeL (v ++ [c])) else none
theorem dwGo_yes {c : UInt8} {r v : List UInt8} (h : wordL (closeL (v ++ [c])) = true) : dwGo (c :: r) v = dwGo r (closeL (v ++ [c])) := by rw [dwGo, if_pos h]
theorem dwGo_no {c : UInt8} {r v : List UInt8} (h : wordL (closeL (v ++ [c])) = false) : dwGo (c :: r) v = none := by rw [dwGo, if_neg (by simp [h])]
theorem dwGo_snoc (x : UInt8) : ∀ (d v : List UInt8), dwGo (d ++ [x]) v = (dwGo d v).bind fun u => if wordL (closeL (u ++ [x])) = true then some (closeL (u ++ [x])) else none
  | [], v => by simp [dwGo]
  | c :: r, v => by
    rw [List.cons_append, dwGo, dwGo]
    split
    · exact dwGo_snoc x r _
    · rfl
/-- what is answered for the rest of a direction -/
def dwR (o : Option (List UInt8)) : ByteArray × Bool := match o with | some v => (St v, true) | none => (St [], false)
def dwOk (s : ByteArray) : Bool := wordL s.data.toList && decide ((s.size : Int) ≤ 12)
def dwW (s : ByteArray) : ByteArray × Bool := if dwOk s = true then dwR (dwGo s.data.toList []) else (St [], false)
theorem ret_dw {a : ByteArray} {b : Bool} {R : ByteArray × Bool} (h : (a, b) = R) : Ending.returned (.tuple #[.string a, .bool b]) = .returned (.tuple #[.string R.1, .bool R.2]) := by subst h; rfl
/-- a string with a byte more -/
def addS (v : ByteArray) (c : UInt8) : ByteArray := St (v.data.toList ++ [c])
theorem addS_eq (v s : ByteArray) (k : Nat) (h : k < s.size) : v ++ s.extract k (k + 1) = addS v s[k] := by
  apply str_inj
  rw [ByteArray.data_append, Array.toList_append, ext_data, addS, St_data, drop_cons s k h, show k + 1 - k = 1 by omega]
  simp
theorem addS_size (v : ByteArray) (c : UInt8) : (addS v c).size = v.size + 1 := by rw [addS, St_size, List.length_append, ← size_len]; rfl
theorem close_add (v : ByteArray) (c : UInt8) : (closeS (addS v c)).data.toList = closeL (v.data.toList ++ [c]) := rfl
theorem ext_one_size (s : ByteArray) (k : Nat) (h : k < s.size) : (s.extract k (k + 1)).size = 1 := by rw [ext_size s k (k + 1) (by omega) (by omega)]; omega
theorem ascii_of {s : ByteArray} (hw : wordL s.data.toList = true) : ∀ k (h : k < s.size), (s[k]'h).toNat < 128 := fun k h => by
  have := abcd_iff.1 (wordL_all hw s[k] (List.mem_of_getElem (i := k) (h := by simpa using h) rfl)); omega

theorem lt_of_heap {w : World} {k : Nat} {o : Obj} (h : w.heap[k]? = some o) : k < w.heap.size := (Array.getElem?_eq_some_iff.1 h).1
theorem heap_kept {w w' : World} {k : Nat} {o : Obj} (hb : Below w.heap.size w w') (h : w.heap[k]? = some o) : w'.heap[k]? = some o := by rw [hb.block k (lt_of_heap h)]; exact h
set_option maxHeartbeats 1000000 in
theorem directedWord_i (s : ByteArray) (w : World) (hs : s.size ≤ 1073741000) :
    Calls Try.prog 66 #[.string s] w fun e w' => e = .returned (.tuple #[.string (dwW s).1, .bool (dwW s).2]) ∧ Below w.heap.size w w' := by
  obtain ⟨R, hR⟩ : ∃ R, R = dwW s := ⟨_, rfl⟩
  rw [← hR]
  cases hw : wordL s.data.toList
  · have r1 : Hid (R = (St [], false)) := by simp [hR, dwW, dwOk, hw, Hid]
    clear hR
    go_enter Try.func66, Try.ntmps66
    go_wp2_with (go_at_call 85; refine (isWord_c _ _ (by unfold maxLen; omega)).mono ?_; rintro e w' ⟨rfl, rfl⟩)
    go_ret2
    exact ⟨ret_dw r1.out.symm, Below.refl _ _⟩
  · by_cases h12 : 12 < s.size
    · have r1 : Hid (R = (St [], false)) := by
        have : decide ((s.size : Int) ≤ 12) = false := decide_eq_false (by omega)
        simp [hR, dwW, dwOk, this, Hid]
      clear hR
      go_enter Try.func66, Try.ntmps66
      go_wp2_with (go_at_call 85; refine (isWord_c _ _ (by unfold maxLen; omega)).mono ?_; rintro e w' ⟨rfl, rfl⟩)
      go_ret2
      exact ⟨ret_dw r1.out.symm, Below.refl _ _⟩
    · have hst : Hid (R = dwR (dwGo (s.data.toList.drop 0) (⟨#[]⟩ : ByteArray).data.toList)) := by
        have : decide ((s.size : Int) ≤ 12) = true := decide_eq_true (by omega)
        simp [hR, dwW, dwOk, hw, this, Hid]
      have HW := Lib.hid hw
      clear hR hw
      go_enter Try.func66, Try.ntmps66
      go_wp2_with (go_at_call 85; refine (isWord_c _ _ (by unfold maxLen; omega)).mono ?_; rintro e w' ⟨e1, rfl⟩; rw [HW.out] at e1; subst e1)
      go_loopw [4, 16] (fun o i wr => ∃ (k : Nat) (v : ByteArray), k ≤ s.size ∧ v.size ≤ 400 ∧ i = .int .i64 k ∧ o = .string v ∧ Hid (R = dwR (dwGo (s.data.toList.drop k) v.data.toList)) ∧ Below w.heap.size w wr) (fun _ i _ => s.size - (intOf i).toNat)
      case atStart => exact ⟨0, ⟨#[]⟩, Nat.zero_le _, by decide, rfl, rfl, hst, Below.refl _ _⟩
      case round =>
        obtain ⟨k, v, hk, hv, rfl, rfl, hg, hbw⟩ := hrel
        have hsz := hbw.size
        by_cases hlt : k < s.size
        · have b1 : (k : Int) ≤ (k : Int) + 1 := by omega
          have b2 : (k : Int) + 1 ≤ (s.size : Int) := by omega
          have z1 := ext_one_size s k hlt
          have ha := addS_eq v s k hlt
          have hdc := Lib.hid (drop_cons s k hlt)
          obtain ⟨u, hu⟩ : ∃ u, u = addS v s[k] := ⟨_, rfl⟩
          have hus : u.size = v.size + 1 := by rw [hu]; exact addS_size _ _
          have hub : u.size ≤ 401 := by omega
          have hcs := closeS_size u
          have hcl := fun W => Lib.hid (closed_c u W (by omega))
          have hw2 := fun W => Lib.hid (isWord_c (closeS u) W (by unfold maxLen; omega))
          have HU : Hid ((closeS u).data.toList = closeL (v.data.toList ++ [s[k]])) := by rw [Hid, hu]; exact close_add _ _
          rw [← hu] at ha
          clear hu hus
          cases hq : wordL (closeS u).data.toList
          · have r1 : Hid (R = (St [], false)) := by rw [Hid, hg.out, hdc.out, dwGo_no (by rw [← HU.out]; exact hq)]; rfl
            have HQ := Lib.hid hq
            clear hq
            go_wp2_with (first | (go_at_call 113; refine (hcl _).out.mono ?_; rintro e w1 ⟨rfl, hb1⟩) | (go_at_call 85; refine (hw2 _).out.mono ?_; rintro e w' ⟨e1, rfl⟩; rw [HQ.out] at e1; subst e1))
            go_ret2
            exact ⟨ret_dw r1.out.symm, hbw.trans (hb1.mono hsz)⟩
          · have hnx : Hid (R = dwR (dwGo (s.data.toList.drop (k + 1)) (closeS u).data.toList)) := by rw [Hid, hg.out, hdc.out, dwGo_yes (by rw [← HU.out]; exact hq), HU.out]
            have hq4 := wordL_size hq
            have HQ := Lib.hid hq
            clear hq
            go_wp2_with (first | (go_at_call 113; refine (hcl _).out.mono ?_; rintro e w1 ⟨rfl, hb1⟩) | (go_at_call 85; refine (hw2 _).out.mono ?_; rintro e w' ⟨e1, rfl⟩; rw [HQ.out] at e1; subst e1))
            go_roundw
            case rel => exact ⟨k + 1, closeS u, by omega, hq4, by go_num, rfl, hnx, hbw.trans (hb1.mono hsz)⟩
            case measure => simp [intOf] <;> omega
        · have r1 : Hid (R = (v, true)) := by
            rw [Hid, hg.out, List.drop_of_length_le (by rw [← size_len]; omega)]
            show (St v.data.toList, true) = (v, true)
            rw [St_of]
          go_wp2
          go_ret2
          exact ⟨ret_dw r1.out.symm, hbw⟩
/-! ### DirectionOf: plain -/
def strOf : Value → ByteArray
  | .string s => s
  | _ => ⟨#[]⟩

def doFin (l d v : List UInt8) : ByteArray × Bool := if v = l then (St d, true) else (St [], false)
def doGo (l : List UInt8) : Nat → List UInt8 → List UInt8 → ByteArray × Bool
  | 0, d, v => doFin l d v
  | f + 1, d, v => if v.length < l.length then doGo l f (d ++ [l.getD v.length 0]) (closeL (v ++ [l.getD v.length 0])) else doFin l d v
theorem doGo_stop {l d v : List UInt8} {f : Nat} (h : f = 0 ∨ ¬ v.length < l.length) : doGo l f d v = doFin l d v := by
  cases f with
  | zero => rfl
  | succ f => rw [doGo, if_neg (h.resolve_left (by omega))]
theorem doGo_step {s d v : ByteArray} {f : Nat} (hf : 1 ≤ f) (h : v.size < s.size) : doGo s.data.toList f d.data.toList v.data.toList = doGo s.data.toList (f - 1) (addS d s[v.size]).data.toList (closeS (addS v s[v.size])).data.toList := by
  obtain ⟨g, rfl⟩ : ∃ g, f = g + 1 := ⟨f - 1, by omega⟩
  have hv := size_len v
  have e : s.data.toList.getD v.data.toList.length 0 = s[v.size] := by
    rw [← hv, List.getD_eq_getElem?_getD, List.getElem?_eq_getElem (by rw [← size_len]; exact h)]; rfl
  rw [doGo, if_pos (by rw [← hv, ← size_len]; exact h), e]; rfl
theorem doGo_big {l d v : List UInt8} {f : Nat} (h : l.length < v.length) : doGo l f d v = (St [], false) := by
  rw [doGo_stop (.inr (by omega)), doFin, if_neg (by intro e; rw [e] at h; omega)]
def dofW (s : ByteArray) : ByteArray × Bool := if wordL s.data.toList = true then doGo s.data.toList 12 [] [] else (St [], false)
/-- a direction so far: its letters, and the word that it makes -/
structure DirSt (d v : ByteArray) : Prop where
  dl : ∀ c ∈ d.data.toList, abcd c = true
  vl : ∀ c ∈ v.data.toList, abcd c = true
  dw : dwGo d.data.toList [] = some v.data.toList
theorem dirSt_start : DirSt ⟨#[]⟩ ⟨#[]⟩ := ⟨fun c h => by simp at h, fun c h => by simp at h, rfl⟩
theorem letters_add {v : ByteArray} {c : UInt8} (h : ∀ x ∈ v.data.toList, abcd x = true) (hc : abcd c = true) : ∀ x ∈ (addS v c).data.toList, abcd x = true := by
  intro x hx
  rcases List.mem_append.1 (show x ∈ v.data.toList ++ [c] from hx) with hx | hx
  · exact h x hx
  · rw [List.mem_singleton.1 hx]; exact hc
theorem letters_close {v : ByteArray} (h : ∀ x ∈ v.data.toList, abcd x = true) : ∀ x ∈ (closeS v).data.toList, abcd x = true :=
  fun x hx => h x (closeL_mem hx)
theorem dirSt_yes {d v : ByteArray} {c : UInt8} (h : DirSt d v) (hc : abcd c = true) (hw : wordL (closeS (addS v c)).data.toList = true) : DirSt (addS d c) (closeS (addS v c)) :=
  ⟨letters_add h.dl hc, letters_close (letters_add h.vl hc), by
    show dwGo (d.data.toList ++ [c]) [] = _
    rw [dwGo_snoc, h.dw]
    show (if wordL (closeL (v.data.toList ++ [c])) = true then _ else none) = _
    rw [if_pos (show wordL (closeL (v.data.toList ++ [c])) = true from hw)]; rfl⟩
theorem dwW_of {d v : ByteArray} {c : UInt8} (h : DirSt d v) (hc : abcd c = true) (hd : d.size < 12) :
    dwW (addS d c) = if wordL (closeS (addS v c)).data.toList = true then (closeS (addS v c), true) else (St [], false) := by
  have hs := addS_size d c
  have hok : dwOk (addS d c) = true := by
    unfold dwOk
    rw [wordL_mk (letters_add h.dl hc) (by rw [← size_len]; omega), decide_eq_true (by omega)]; rfl
  unfold dwW
  rw [if_pos hok]
  have e : dwGo (addS d c).data.toList [] = if wordL (closeS (addS v c)).data.toList = true then some (closeS (addS v c)).data.toList else none := by
    show dwGo (d.data.toList ++ [c]) [] = _
    rw [dwGo_snoc, h.dw]; rfl
  rw [e]
  split <;> rfl
theorem long_of_no {v : ByteArray} (h : ∀ x ∈ v.data.toList, abcd x = true) (hw : wordL v.data.toList = false) : 400 < v.size := by
  rcases Nat.lt_or_ge 400 v.size with h1 | h1
  · exact h1
  · rw [wordL_mk h (by rw [← size_len]; exact h1)] at hw; cases hw
theorem letter_of {s : ByteArray} (hw : wordL s.data.toList = true) (k : Nat) (h : k < s.size) : abcd s[k] = true :=
  wordL_all hw s[k] (List.mem_of_getElem (i := k) (h := by simpa using h) rfl)

set_option maxHeartbeats 2000000 in
theorem directionOf_i (s : ByteArray) (w : World) (hs : s.size ≤ 1073741000) :
    Calls Try.prog 67 #[.string s] w fun e w' => e = .returned (.tuple #[.string (dofW s).1, .bool (dofW s).2]) ∧ Below w.heap.size w w' := by
  obtain ⟨R, hR⟩ : ∃ R, R = dofW s := ⟨_, rfl⟩
  rw [← hR]
  cases hw : wordL s.data.toList
  · have r1 : Hid (R = (St [], false)) := by simp [hR, dofW, hw, Hid]
    clear hR
    go_enter Try.func67, Try.ntmps67
    go_wp2_with (go_at_call 85; refine (isWord_c _ _ (by unfold maxLen; omega)).mono ?_; rintro e w' ⟨rfl, rfl⟩)
    go_ret2
    exact ⟨ret_dw r1.out.symm, Below.refl _ _⟩
  · have hst : Hid (R = doGo s.data.toList (12 - (⟨#[]⟩ : ByteArray).size) (⟨#[]⟩ : ByteArray).data.toList (⟨#[]⟩ : ByteArray).data.toList) := by rw [Hid, hR, dofW, if_pos hw]; rfl
    have HW := Lib.hid hw
    have hs4 := wordL_size hw
    clear hR hw
    go_enter Try.func67, Try.ntmps67
    go_wp2_with (go_at_call 85; refine (isWord_c _ _ (by unfold maxLen; omega)).mono ?_; rintro e w' ⟨e1, rfl⟩; rw [HW.out] at e1; subst e1)
    go_loopw [4, 5] (fun o p wr => ∃ d v : ByteArray, d.size ≤ 12 ∧ v.size ≤ 400 ∧ o = .string d ∧ p = .string v ∧ Hid (DirSt d v) ∧ Hid (R = doGo s.data.toList (12 - d.size) d.data.toList v.data.toList) ∧ Below w.heap.size w wr) (fun o _ _ => 12 - (strOf o).size)
    case atStart => exact ⟨⟨#[]⟩, ⟨#[]⟩, by decide, by decide, rfl, rfl, dirSt_start, hst, Below.refl _ _⟩
    case round =>
      obtain ⟨d, v, hd, hv, rfl, rfl, hds, hg, hbw⟩ := hrel
      have hsz := hbw.size
      by_cases hlt : v.size < s.size ∧ d.size < 12
      · obtain ⟨hl1, hl2⟩ := hlt
        have b1 : (v.size : Int) ≤ (v.size : Int) + 1 := by omega
        have b2 : (v.size : Int) + 1 ≤ (s.size : Int) := by omega
        have z1 := ext_one_size s v.size hl1
        have ha := addS_eq d s v.size hl1
        have hdg := Lib.hid (doGo_step (s := s) (d := d) (v := v) (f := 12 - d.size) (by omega) hl1)
        obtain ⟨x, hx⟩ : ∃ x, x = s[v.size] := ⟨_, rfl⟩
        have hxl : Hid (abcd x = true) := by rw [Hid, hx]; exact letter_of HW.out _ hl1
        rw [← hx] at ha hdg
        obtain ⟨d', hd'⟩ : ∃ d', d' = addS d x := ⟨_, rfl⟩
        obtain ⟨v', hv'⟩ : ∃ v', v' = closeS (addS v x) := ⟨_, rfl⟩
        have hds' : d'.size = d.size + 1 := by rw [hd']; exact addS_size _ _
        have hdb : d'.size ≤ 12 := by omega
        have hdl : d.size < d'.size := by omega
        have hdw := dwW_of hds.out hxl.out hl2
        have hd12 : Hid (12 - d.size - 1 = 12 - d'.size) := by unfold Hid; omega
        rw [← hd', ← hv'] at hdg
        rw [← hd'] at ha
        rw [← hd', ← hv'] at hdw
        have hcl := fun W => Lib.hid (directedWord_i d' W (by omega))
        cases hq : wordL v'.data.toList
        · have hD : dwW d' = (St [], false) := by rw [hdw, if_neg (by simp [hq])]
          rw [hD] at hcl
          have hbig := long_of_no (v := v') (by rw [hv']; exact letters_close (letters_add hds.out.vl hxl.out)) hq
          have r1 : Hid (R = (St [], false)) := by rw [Hid, hg.out, hdg.out, doGo_big (by rw [← size_len, ← size_len]; omega)]
          have hemp : (St []).toList.isEmpty = true := by rw [Lib.toList_data]; rfl
          clear hdw hD hd' hv' hds' hq hx
          go_wp2_with (go_at_call 66; refine (hcl _).out.mono ?_; rintro e w1 ⟨rfl, hb1⟩)
          go_ret2
          exact ⟨ret_dw r1.out.symm, hbw.trans (hb1.mono hsz)⟩
        · have hD : dwW d' = (v', true) := by rw [hdw, if_pos hq]
          rw [hD] at hcl
          have hq4 := wordL_size hq
          have hnx : Hid (R = doGo s.data.toList (12 - d'.size) d'.data.toList v'.data.toList) := by rw [Hid, hg.out, hdg.out, hd12.out]
          have hds2 : Hid (DirSt d' v') := by rw [Hid, hd', hv']; exact dirSt_yes hds.out hxl.out (by rw [← hv']; exact hq)
          have hv1 : 1 ≤ v'.size := by
            have := closeL_ge (addS v x).data.toList
            have h2 := addS_size v x
            rw [hv', closeS, St_size]
            rw [← size_len] at this; omega
          have hemp : v'.toList.isEmpty = false := by
            cases hxx : v'.toList.isEmpty with
            | false => rfl
            | true => rw [Lib.toList_data, List.isEmpty_iff, ← List.length_eq_zero_iff, ← size_len] at hxx; omega
          clear hdw hD hd' hv' hds' hq hx
          go_wp2_with (go_at_call 66; refine (hcl _).out.mono ?_; rintro e w1 ⟨rfl, hb1⟩)
          go_roundw
          case rel => exact ⟨d', v', hdb, hq4, rfl, rfl, hds2, hnx, hbw.trans (hb1.mono hsz)⟩
          case measure => simp [strOf] <;> omega
      · have hfin : Hid (R = doFin s.data.toList d.data.toList v.data.toList) := by rw [Hid, hg.out, doGo_stop (by rw [← size_len, ← size_len]; omega)]
        cases hee : (v.toList == s.toList)
        · have hee' : (v.toList != s.toList) = true := by rw [bne, hee]; rfl
          have r1 : Hid (R = (St [], false)) := by rw [Hid, hfin.out, doFin, if_neg (by intro h; rw [Lib.toList_data, Lib.toList_data, h] at hee; simp at hee)]
          by_cases hl1 : v.size < s.size
          all_goals
            go_wp2
            go_ret2
            exact ⟨ret_dw r1.out.symm, hbw⟩
        · have hee' : (v.toList != s.toList) = false := by rw [bne, hee]; rfl
          have r1 : Hid (R = (d, true)) := by
            rw [Hid, hfin.out, doFin, if_pos (by rw [Lib.toList_data, Lib.toList_data] at hee; exact beq_iff_eq.1 hee), St_of]
          by_cases hl1 : v.size < s.size
          all_goals
            go_wp2
            go_ret2
            exact ⟨ret_dw r1.out.symm, hbw⟩

end Go.Proofs.Ytlmciomoimfajaa
