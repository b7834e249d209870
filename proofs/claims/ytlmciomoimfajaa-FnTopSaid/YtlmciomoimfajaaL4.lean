/- Contract of CountsOf in the program: how often each letter stands in a word. Conditions: a word. -/
import Derived.Test.YtlmciomoimfajaaB1
import Derived.Test.YtlmciomoimfajaaB4
import Derived.Test.YtlmciomoimfajaaM1
import Derived.Test.YtlmciomoimfajaaV0
namespace Go.Proofs.Ytlmciomoimfajaa
open Go.RowKit
set_option linter.unusedVariables false

def cntL (l : List UInt8) : List Int := [(l.count 97 : Int), (l.count 98 : Int), (l.count 99 : Int), (l.count 100 : Int)]
theorem cntL_len (l : List UInt8) : (cntL l).length = 4 := rfl
theorem cntL_nil : cntL [] = [0, 0, 0, 0] := rfl
theorem cntL_rev (l : List UInt8) : cntL l.reverse = cntL l := by simp only [cntL, List.count_reverse]
theorem cntL_perm {l r : List UInt8} (h : l.Perm r) : cntL l = cntL r := by simp only [cntL, h.count_eq]
theorem abcd_cases {c : UInt8} (h : abcd c = true) : c = 97 ∨ c = 98 ∨ c = 99 ∨ c = 100 := by
  have := abcd_iff.1 h
  have h2 : c.toNat = 97 ∨ c.toNat = 98 ∨ c.toNat = 99 ∨ c.toNat = 100 := by omega
  rcases h2 with e | e | e | e
  · exact .inl (UInt8.toNat_inj.1 e)
  · exact .inr (.inl (UInt8.toNat_inj.1 e))
  · exact .inr (.inr (.inl (UInt8.toNat_inj.1 e)))
  · exact .inr (.inr (.inr (UInt8.toNat_inj.1 e)))
theorem cntL_sum : ∀ {l : List UInt8}, (∀ c ∈ l, abcd c = true) → sumL (cntL l) = (l.length : Int)
  | [], _ => rfl
  | c :: l, h => by
    have ih := cntL_sum (l := l) (fun x hx => h x (List.mem_cons_of_mem _ hx))
    simp only [sumL, cntL, List.foldl_cons, List.foldl_nil] at ih ⊢
    rw [List.length_cons]
    rcases abcd_cases (h c (List.mem_cons_self ..)) with rfl | rfl | rfl | rfl <;> simp only [List.count_cons] <;> simp <;> omega
/-- the letter's place -/
def cj (c : UInt8) : Nat := c.toNat - 97
def cAt (l : List UInt8) (j : Nat) : Int := (cntL l).getD j 0
theorem cAt_bd (l : List UInt8) (j : Nat) : 0 ≤ cAt l j ∧ cAt l j ≤ l.length := by
  unfold cAt cntL
  have h := fun c : UInt8 => List.count_le_length (a := c) (l := l)
  rcases j with _ | _ | _ | _ | j
  · have := h 97; simp; omega
  · have := h 98; simp; omega
  · have := h 99; simp; omega
  · have := h 100; simp; omega
  · simp
theorem cnt_set (l : List UInt8) {x : UInt8} {j : Nat} (hx : abcd x = true) (hj : x.toNat = j + 97) : (iv (cntL l)).set j (.int .i64 (cAt l j + 1)) = iv (cntL (l ++ [x])) := by
  rcases abcd_cases hx with rfl | rfl | rfl | rfl
  · obtain rfl : j = 0 := by simpa using hj.symm
    simp [iv, cntL, cAt, List.count_append]
  · obtain rfl : j = 1 := by have : (98 : UInt8).toNat = 98 := rfl; omega
    simp [iv, cntL, cAt, List.count_append]
  · obtain rfl : j = 2 := by have : (99 : UInt8).toNat = 99 := rfl; omega
    simp [iv, cntL, cAt, List.count_append]
  · obtain rfl : j = 3 := by have : (100 : UInt8).toNat = 100 := rfl; omega
    simp [iv, cntL, cAt, List.count_append]
theorem cnt_step {w : World} {B g cap : Nat} {l : List UInt8} {x : UInt8} {j : Nat} (hx : abcd x = true) (hj : x.toNat = j + 97) (h : OwnI w B (.slice (some ⟨g, 0, none⟩) 4 cap) (cntL l)) :
    OwnI (w.setCell ⟨g, j, none⟩ (.int .i64 (cAt l j + 1))) B (.slice (some ⟨g, 0, none⟩) 4 cap) (cntL (l ++ [x])) ∧ w.grownBy (w.setCell ⟨g, j, none⟩ (.int .i64 (cAt l j + 1))) (some g) := by
  unfold OwnI at h ⊢
  have := h.stored j (.int .i64 (cAt l j + 1))
  rw [cnt_set l hx hj] at this
  exact this
theorem cnt_cell {w : World} {B g cap : Nat} {l : List UInt8} {j : Nat} (hj : j < 4) (h : OwnI w B (.slice (some ⟨g, 0, none⟩) 4 cap) (cntL l)) :
    w.cell? ⟨g, j, none⟩ = some (.int .i64 (cAt l j)) ∧ w.frozen? ⟨g, j, none⟩ = false := by
  unfold OwnI at h
  refine ⟨?_, h.frozenAt _⟩
  have hc := h.cellAt j hj
  refine hc.trans ?_
  have h4 : j = 0 ∨ j = 1 ∨ j = 2 ∨ j = 3 := by omega
  rcases h4 with rfl | rfl | rfl | rfl <;> rfl
theorem cnt_made {w : World} {B : Nat} {v : Value} (h : w.ownsRow B 3 1 v 4 (madeCells (Value.int .i64 0).cells (4 * 1)).toList) : OwnI w B v (cntL []) := by
  have e : (madeCells (Value.int .i64 0).cells (4 * 1)).toList = iv (cntL []) := by rw [Nat.mul_one]; exact toList_madeCells_one _ _
  unfold OwnI
  rw [← e]; exact h

set_option maxRecDepth 20000 in
set_option maxHeartbeats 2000000 in
theorem countsOf_i (s : ByteArray) (w : World) (hw : wordL s.data.toList = true) :
    Calls Try.prog 11 #[.string s] w (RetI (cntL s.data.toList) w) := by
  have hs := wordL_size hw
  have h1 := fun W => Lib.hid (isWord_c s W (by unfold maxLen; omega))
  have HA := Lib.hid (wordL_all hw)
  rw [hw] at h1
  obtain ⟨i0, hi, hz0, hz1, hz2⟩ := info_parts info_int
  clear hw
  go_enter Try.func11, Try.ntmps11
  go_wp2_with fail
  refine (h1 _).out.mono ?_
  rintro e w' ⟨rfl, rfl⟩
  go_wp2_with (at_make; refine wpList_make_full _ rfl _ _ 24 rfl w.heap.size 3 i0 (.int .i64 0) 1 Try.underlying24 hi hz0 hz1 _ _ _ _ 4 rfl rfl rfl rfl (by rw [hz2]; omega) (by unfold maxLen; omega) (Nat.le_refl _) ?_; intro w1 hown hgrow)
  have hst := Lib.hid (cnt_made hown)
  have hb1 : Below w.heap.size w w1 := (Below.refl _ _).grown hgrow (Nat.le_refl _) (by intro k hk; cases hk)
  clear hown hgrow
  go_loopw [11] (fun z wr => ∃ k : Nat, z = .int .i64 k ∧ k ≤ s.size ∧ Hid (OwnI wr w.heap.size (.slice (some ⟨w.heap.size, 0, none⟩) 4 4) (cntL (s.data.toList.take k))) ∧ Below w.heap.size w wr) (fun z _ => s.size - (intOf z).toNat)
  case atStart => exact ⟨0, rfl, by omega, hst, hb1⟩
  case round =>
    obtain ⟨k, rfl, hk, hown, hb⟩ := hrel
    by_cases hlt : k < s.size
    · have hab := HA.out s[k] (List.mem_of_getElem (i := k) (h := by simpa using hlt) rfl)
      have hbd := abcd_iff.1 hab
      obtain ⟨j, hj⟩ : ∃ j : Nat, s[k].toNat = j + 97 := ⟨s[k].toNat - 97, by omega⟩
      have hj4 : j < 4 := by omega
      have hji : ((s[k].toNat : Nat) : Int) - 97 = (j : Int) := by omega
      have hjw : IntKind.u8.wrap (j : Int) = (j : Int) := by unfold IntKind.wrap; simp [IntKind.signed, IntKind.bits]; omega
      obtain ⟨hc, hf⟩ := cnt_cell hj4 hown.out
      have hst2 := Lib.hid (cnt_step hab hj hown.out)
      have htk := Lib.hid (take_snoc s k hlt)
      have hcb := cAt_bd (s.data.toList.take k) j
      have hcl : (s.data.toList.take k).length ≤ 400 := by rw [List.length_take]; omega
      have hsz := hb.size
      clear hj hab hbd
      go_wp2_with fail
      go_roundw
      case rel => exact ⟨k + 1, by go_num, by omega, by rw [htk.out]; exact hst2.out.1, hb.setCell (Nat.le_refl _) _⟩
      case measure => simp [intOf] <;> omega
    · obtain rfl : k = s.size := by omega
      have hfin : Hid (cntL (s.data.toList.take s.size) = cntL s.data.toList) := by unfold Hid; rw [List.take_of_length_le (by rw [← size_len]; exact Nat.le_refl _)]
      go_wp2_with fail
      go_ret
      exact retI_mk hown.out hfin.out hb
end Go.Proofs.Ytlmciomoimfajaa
