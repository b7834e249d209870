/- Contracts of factorsOf and of the reference's l05Factors: the parts of n letters of a word, ascending, each once (facW). Conditions: strings of at most 2^30 bytes. -/
import Derived.Test.YtlmciomoimfajaaDoorT3
namespace Go.Proofs.YtlmciomoimfajaaDoor
open Go.RowKit
set_option linter.unusedVariables false

def facGo (s : ByteArray) (n : Nat) : Nat → Nat → List ByteArray := rowP (fun _ _ => true) (fun _ i => s.extract i (i + n)) 0
def facL (s : ByteArray) (n : Nat) : List ByteArray := facGo s n (s.size + 1 - n) 0
def facW (s : ByteArray) (n : Nat) : List ByteArray := uniqS (facL s n)
theorem facL_len (s : ByteArray) (n : Nat) : (facL s n).length ≤ s.size + 1 - n := rowP_len _ _ _ _ _
theorem facW_len (s : ByteArray) (n : Nat) : (facW s n).length ≤ s.size + 1 := by
  have h1 := uniqS_len (facL s n)
  have h2 := facL_len s n
  unfold facW; omega
theorem facW_ins (s : ByteArray) (n : Nat) : facW s n = insAll [] (facL s n) := uniqS_ins _
theorem facL_mem {s x : ByteArray} {n : Nat} : x ∈ facL s n ↔ ∃ i, i + n ≤ s.size ∧ x = s.extract i (i + n) := by
  unfold facL facGo
  rw [mem_rowP]
  constructor
  · rintro ⟨i, _, h2, _, h4⟩; exact ⟨i, by omega, h4⟩
  · rintro ⟨i, h1, h2⟩; exact ⟨i, by omega, by omega, rfl, h2⟩
theorem facW_mem {s x : ByteArray} {n : Nat} : x ∈ facW s n ↔ ∃ i, i + n ≤ s.size ∧ x = s.extract i (i + n) := by
  unfold facW; rw [uniqS_mem, facL_mem]
theorem facW_asc (s : ByteArray) (n : Nat) : AscS (facW s n) := uniqS_asc _
theorem facW_size {s x : ByteArray} {n : Nat} (h : x ∈ facW s n) : x.size = n := by
  obtain ⟨i, hi, rfl⟩ := facW_mem.1 h
  rw [ext_size s i (i + n) hi (by omega)]; omega
theorem fac_hit {s : ByteArray} {n f i : Nat} {acc R : List ByteArray} (h : acc ++ facGo s n f i = R) (hf : 0 < f) : Hid ((acc ++ [s.extract i (i + n)]) ++ facGo s n (f - 1) (i + 1) = R) := by
  have h0 : acc ++ (rowP (fun _ _ => true) (fun _ i => s.extract i (i + n)) 0 f i ++ []) = R := by rw [List.append_nil]; exact h
  have := (row_hit h0 hf rfl).out
  rw [List.append_nil] at this; exact this
theorem fac_end {s : ByteArray} {n i : Nat} {acc R : List ByteArray} (h : acc ++ facGo s n 0 i = R) : Hid (acc = R) := by
  unfold Hid; rw [← h]; show acc = acc ++ []; rw [List.append_nil]

set_option maxHeartbeats 2000000 in
theorem factorsOf_c (s : ByteArray) (n : Nat) (w : World) (hs : s.size ≤ 1000000) (hn : n ≤ 1000000) :
    Calls Tryd.prog 28 #[.string s, .int .i64 (n : Int)] w (RetS (facW s n) w) := by
  obtain ⟨R, hR⟩ : ∃ R, R = facL s n := ⟨_, rfl⟩
  have hr : Hid (facW s n = compS (sortS R)) := by unfold Hid facW; rw [hR]; rfl
  have hRl : R.length ≤ 1000001 := by have := facL_len s n; rw [hR]; omega
  have hst : Hid ([] ++ facGo s n (s.size + 1 - n) 0 = R) := by rw [hR]; rfl
  have hst0 : Hid (OwnS (w.alloc (.cells #[] 9)) w.heap.size (.slice (some ⟨w.heap.size, 0, none⟩) 0 0) []) := ownS_empty w (Nat.le_refl _)
  clear hR
  go_enter Tryd.func28, Tryd.ntmps28
  go_wp2
  go_loopw [5, 6] (fun o x wr => ∃ (i f : Nat) (acc : List ByteArray) (v : Value), i + f = s.size + 1 - n ∧ x = .int .i64 i ∧ v = o ∧ Hid (acc ++ facGo s n f i = R) ∧ Hid (OwnS wr w.heap.size v acc) ∧ Below w.heap.size w wr) (fun _ x _ => s.size + 1 - (intOf x).toNat)
  case atStart => exact ⟨0, s.size + 1 - n, [], _, by omega, rfl, rfl, hst, hst0, (Below.refl _ _).alloc (Nat.le_refl _) _⟩
  case round =>
    obtain ⟨i, f, acc, v, hif, rfl, rfl, hacc, hown, hbw⟩ := hrel
    have hsz := hbw.size
    have hal := Nat.le_trans (acc_le hacc.out) hRl
    have b0 : 0 ≤ (i : Int) + (n : Int) := by omega
    have b1 : (i : Int) ≤ (i : Int) + (n : Int) := by omega
    have e1 : IntKind.i64.wrap ((i : Int) + (n : Int)) = (i : Int) + (n : Int) := IntWalk.i64_in _ (by omega)
    have e2 : ((i : Int) + (n : Int)).toNat = i + n := by omega
    by_cases hle : i + n ≤ s.size
    · have b2 : (i : Int) + (n : Int) ≤ (s.size : Int) := by omega
      have hnx := fac_hit hacc.out (by omega)
      go_wp2_with (at_builtin; refine appS rfl _ _ rfl w.heap.size _ acc rfl (by exact hown.out) _ rfl (by omega) (by exact hsz) ?_; intro v2 w2 hown2 hg2)
      go_roundw
      case rel => exact ⟨i + 1, f - 1, acc ++ [s.extract i (i + n)], v2, by omega, by go_num, rfl, hnx, hown2, below_app hbw hown.out hg2 hsz⟩
      case measure => simp [intOf] <;> omega
    · obtain rfl : f = 0 := by omega
      have b2 : decide ((i : Int) + (n : Int) ≤ (s.size : Int)) = false := decide_eq_false (by omega)
      have hfin := fac_end hacc.out
      go_wp2_with fail
      refine (sortS_c v _ _ _ hown.out (by omega)).mono ?_
      rintro e w2 ⟨rfl, ho1, hg1⟩
      have HO1 := Lib.hid ho1
      have hb1 := below_app hbw hown.out hg1 hsz
      have HB1 := Lib.hid hb1
      have hs2 := hb1.size
      have hl1 := sortS_len acc
      clear ho1 hg1 hb1
      go_wp2_with fail
      refine (compactS_c v _ _ _ HO1.out (by omega)).mono ?_
      rintro e w3 ⟨v', rfl, ho2, hg2, -⟩
      have HO2 := Lib.hid ho2
      have HB2 := Lib.hid (below_app HB1.out HO1.out hg2 hs2)
      clear ho2 hg2
      go_wp2_with fail
      go_ret
      exact ⟨_, rfl, by rw [hr.out, ← hfin.out]; exact HO2.out, HB2.out⟩

end Go.Proofs.YtlmciomoimfajaaDoor
