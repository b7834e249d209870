/- Contract of isShort; plain rows of the parts of a word that a test keeps; rows that a call owns, behind a string's iterator. Conditions: strings of at most 2^30 bytes. -/
import Derived.Test.YtlmciomoimfajaaDoorB2
import Derived.Test.YtlmciomoimfajaaDoorB4
import Derived.Test.YtlmciomoimfajaaDoorT1
import Derived.Test.YtlmciomoimfajaaDoorT2
import Derived.Lib.OthersKept
namespace Go.Proofs.YtlmciomoimfajaaDoor
open Go.RowKit
set_option linter.unusedVariables false

def shortB (s : ByteArray) : Bool := wordL s.data.toList && decide (s.size ≤ 60)
theorem shortB_iff {s : ByteArray} : shortB s = true ↔ wordL s.data.toList = true ∧ s.size ≤ 60 := by simp [shortB]
theorem asciiT {s : ByteArray} (hw : wordL s.data.toList = true) : ∀ k (h : k < s.size), (s[k]'h).toNat < 128 := fun k h => by
  have := abcd_iff.1 (wordL_all hw s[k] (List.mem_of_getElem (i := k) (h := by simpa using h) rfl)); omega
theorem heap_ltT {w : World} {k : Nat} {o : Obj} (h : w.heap[k]? = some o) : k < w.heap.size := (Array.getElem?_eq_some_iff.1 h).1
theorem heap_keptT {w w' : World} {k : Nat} {o : Obj} (hb : Below w.heap.size w w') (h : w.heap[k]? = some o) : w'.heap[k]? = some o := by rw [hb.block k (heap_ltT h)]; exact h
theorem iterPosT {w : World} {k p : Nat} {s : ByteArray} (h : w.heap[k]? = some (.stringIter s p)) : w.iterPos k = p := by unfold World.iterPos; rw [h]
theorem ownS_iterAt {w : World} {B k p : Nat} {v : Value} {l : List ByteArray} {s : ByteArray} (h : OwnS w B v l) (hk : w.heap[k]? = some (.stringIter s p)) (p' : Nat) : OwnS (w.iterAt k s p') B v l := by
  refine World.ownsRow.kept h (row := some k) ⟨rfl, rfl, rfl, by rw [Lib.iterAt_size]; exact Nat.le_refl _, fun j hj hne => Lib.iterAt_other w k j s p' (fun e => hne (by rw [e]))⟩ ?_
  rcases h.2 with ⟨rfl, _⟩ | ⟨g, cap, cur, rfl, hb, hg, _⟩
  · exact .inl rfl
  · refine .inr fun e => ?_
    have e' : g = k := by simpa [Value.ownBlock] using e
    rw [e', hk] at hg
    cases hg
theorem own_baseS {w : World} {B B0 : Nat} {v : Value} {l : List ByteArray} (h : OwnS w B v l) (hB : B0 ≤ B) : OwnS w B0 v l := by
  refine ⟨h.1, ?_⟩
  rcases h.2 with h | ⟨g, cap, cur, hv, hb, h⟩
  · exact .inl h
  · exact .inr ⟨g, cap, cur, hv, Nat.le_trans hB hb, h⟩
theorem lit_ownS (w : World) (x : ByteArray) : OwnS (w.alloc (.cells #[.string x] 9)) w.heap.size (.slice (some ⟨w.heap.size, 0, none⟩) 1 1) [x] :=
  ⟨rfl, .inr ⟨w.heap.size, 1, _, rfl, Nat.le_refl _, heap_alloc_new w _, Nat.le_refl _, by unfold maxLen; omega, rfl, rfl⟩⟩

set_option maxHeartbeats 400000 in
theorem isShortB_c (s : ByteArray) (w : World) (hs : s.size ≤ 1073741824) :
    Calls Tryd.prog 22 #[.string s] w fun e w' => e = .returned (.bool (shortB s)) ∧ w = w' := by
  have h1 := fun W => Lib.hid (isWord_c s W (by unfold maxLen; omega))
  have hr : Hid (shortB s = (wordL s.data.toList && decide (s.size ≤ 60))) := rfl
  cases hw : wordL s.data.toList
  · rw [hw] at h1 hr
    go_enter Tryd.func22, Tryd.ntmps22
    go_wp2_with fail
    refine (h1 _).out.mono ?_
    rintro e w' ⟨rfl, rfl⟩
    go_wp2_with fail
    go_ret
    exact ⟨ret_bool hr.out.symm, rfl⟩
  · rw [hw] at h1 hr
    by_cases hle : s.size ≤ 60
    · have hd : decide ((s.size : Int) ≤ 60) = true := decide_eq_true (by omega)
      have hr2 : Hid (shortB s = true) := by rw [hr.out, decide_eq_true hle]; rfl
      go_enter Tryd.func22, Tryd.ntmps22
      go_wp2_with fail
      refine (h1 _).out.mono ?_
      rintro e w' ⟨rfl, rfl⟩
      go_wp2_with fail
      go_ret
      exact ⟨ret_bool (by rw [hr2.out]), rfl⟩
    · have hd : decide ((s.size : Int) ≤ 60) = false := decide_eq_false (by omega)
      have hr2 : Hid (shortB s = false) := by rw [hr.out, decide_eq_false hle]; rfl
      go_enter Tryd.func22, Tryd.ntmps22
      go_wp2_with fail
      refine (h1 _).out.mono ?_
      rintro e w' ⟨rfl, rfl⟩
      go_wp2_with fail
      go_ret
      exact ⟨ret_bool (by rw [hr2.out]), rfl⟩

/-! rows of parts -/
def rowP (P : Nat → Nat → Bool) (pc : Nat → Nat → ByteArray) (i : Nat) : Nat → Nat → List ByteArray
  | 0, _ => []
  | f + 1, n => if P i n = true then pc i n :: rowP P pc i f (n + 1) else rowP P pc i f (n + 1)
def rowsP (P : Nat → Nat → Bool) (pc : Nat → Nat → ByteArray) (F : Nat → Nat) : Nat → Nat → List ByteArray
  | 0, _ => []
  | f + 1, i => rowP P pc i (F i) 1 ++ rowsP P pc F f (i + 1)
theorem rowP_len (P : Nat → Nat → Bool) (pc : Nat → Nat → ByteArray) (i : Nat) : ∀ f n, (rowP P pc i f n).length ≤ f
  | 0, _ => by simp [rowP]
  | f + 1, n => by
    have := rowP_len P pc i f (n + 1)
    unfold rowP
    split
    · simp only [List.length_cons]; omega
    · omega
theorem rowsP_len (P : Nat → Nat → Bool) (pc : Nat → Nat → ByteArray) (F : Nat → Nat) (M : Nat) (hF : ∀ i, F i ≤ M) : ∀ f i, (rowsP P pc F f i).length ≤ f * M
  | 0, _ => by simp [rowsP]
  | f + 1, i => by
    have h1 := rowsP_len P pc F M hF f (i + 1)
    have h2 := rowP_len P pc i (F i) 1
    have h3 := hF i
    unfold rowsP
    rw [List.length_append, Nat.succ_mul]; omega
theorem row_hit {P : Nat → Nat → Bool} {pc : Nat → Nat → ByteArray} {i f n : Nat} {acc T R : List ByteArray} (h : acc ++ (rowP P pc i f n ++ T) = R) (hf : 0 < f) (hp : P i n = true) : Hid ((acc ++ [pc i n]) ++ (rowP P pc i (f - 1) (n + 1) ++ T) = R) := by
  obtain ⟨g, rfl⟩ : ∃ g, f = g + 1 := ⟨f - 1, by omega⟩
  unfold Hid; rw [← h, rowP, if_pos hp]; simp
theorem row_miss {P : Nat → Nat → Bool} {pc : Nat → Nat → ByteArray} {i f n : Nat} {acc T R : List ByteArray} (h : acc ++ (rowP P pc i f n ++ T) = R) (hf : 0 < f) (hp : P i n = false) : Hid (acc ++ (rowP P pc i (f - 1) (n + 1) ++ T) = R) := by
  obtain ⟨g, rfl⟩ : ∃ g, f = g + 1 := ⟨f - 1, by omega⟩
  unfold Hid; rw [← h, rowP, if_neg (by rw [hp]; decide)]; simp
theorem row_end {P : Nat → Nat → Bool} {pc : Nat → Nat → ByteArray} {i n : Nat} {acc T R : List ByteArray} (h : acc ++ (rowP P pc i 0 n ++ T) = R) : Hid (acc ++ T = R) := by
  unfold Hid; rw [← h, rowP, List.nil_append]
theorem rows_in {P : Nat → Nat → Bool} {pc : Nat → Nat → ByteArray} {F : Nat → Nat} {f i : Nat} {acc R : List ByteArray} (h : acc ++ rowsP P pc F f i = R) (hf : 0 < f) : Hid (acc ++ (rowP P pc i (F i) 1 ++ rowsP P pc F (f - 1) (i + 1)) = R) := by
  obtain ⟨g, rfl⟩ : ∃ g, f = g + 1 := ⟨f - 1, by omega⟩
  unfold Hid; rw [← h, rowsP]; rfl
theorem rows_end {P : Nat → Nat → Bool} {pc : Nat → Nat → ByteArray} {F : Nat → Nat} {i : Nat} {acc R : List ByteArray} (h : acc ++ rowsP P pc F 0 i = R) : Hid (acc = R) := by
  unfold Hid; rw [← h, rowsP, List.append_nil]
theorem acc_le {acc T R : List ByteArray} (h : acc ++ T = R) : acc.length ≤ R.length := by rw [← h, List.length_append]; omega
theorem mem_rowP {P : Nat → Nat → Bool} {pc : Nat → Nat → ByteArray} {i : Nat} {x : ByteArray} : ∀ f n, x ∈ rowP P pc i f n ↔ ∃ m, n ≤ m ∧ m < n + f ∧ P i m = true ∧ x = pc i m
  | 0, n => by simp [rowP]; intro m h1 h2; omega
  | f + 1, n => by
    have ih := mem_rowP (P := P) (pc := pc) (i := i) (x := x) f (n + 1)
    unfold rowP
    split
    · rename_i hp
      rw [List.mem_cons, ih]
      constructor
      · rintro (rfl | ⟨m, h1, h2, h3⟩)
        · exact ⟨n, by omega, by omega, hp, rfl⟩
        · exact ⟨m, by omega, by omega, h3⟩
      · rintro ⟨m, h1, h2, h3, h4⟩
        by_cases e : m = n
        · subst e; exact .inl h4
        · exact .inr ⟨m, by omega, by omega, h3, h4⟩
    · rename_i hp
      rw [ih]
      constructor
      · rintro ⟨m, h1, h2, h3⟩
        exact ⟨m, by omega, by omega, h3⟩
      · rintro ⟨m, h1, h2, h3, h4⟩
        by_cases e : m = n
        · subst e; exact absurd h3 hp
        · exact ⟨m, by omega, by omega, h3, h4⟩
theorem mem_rowsP {P : Nat → Nat → Bool} {pc : Nat → Nat → ByteArray} {F : Nat → Nat} {x : ByteArray} : ∀ f i, x ∈ rowsP P pc F f i ↔ ∃ j m, i ≤ j ∧ j < i + f ∧ 1 ≤ m ∧ m < 1 + F j ∧ P j m = true ∧ x = pc j m
  | 0, i => by simp [rowsP]; intro j m h1 h2; omega
  | f + 1, i => by
    have ih := mem_rowsP (P := P) (pc := pc) (F := F) (x := x) f (i + 1)
    unfold rowsP
    rw [List.mem_append, ih, mem_rowP]
    constructor
    · rintro (⟨m, h1, h2, h3, h4⟩ | ⟨j, m, h1, h2, h3⟩)
      · exact ⟨i, m, by omega, by omega, h1, h2, h3, h4⟩
      · exact ⟨j, m, by omega, by omega, h3⟩
    · rintro ⟨j, m, h1, h2, h3, h4, h5, h6⟩
      by_cases e : j = i
      · subst e; exact .inl ⟨m, h3, h4, h5, h6⟩
      · exact .inr ⟨j, m, by omega, by omega, h3, h4, h5, h6⟩

/-- the palindromes of a word, in the order in which they are met -/
def palP (s : ByteArray) (i n : Nat) : Bool := isPal (s.extract i (i + n))
def palRows (s : ByteArray) : List ByteArray := rowsP (palP s) (fun i n => s.extract i (i + n)) (fun i => s.size - i) s.size 0
def palW (s : ByteArray) : List ByteArray := if shortB s = true then uniqS (⟨#[]⟩ :: palRows s) else []
theorem palRows_len {s : ByteArray} (h : s.size ≤ 60) : (palRows s).length ≤ 3600 := by
  have := rowsP_len (palP s) (fun i n => s.extract i (i + n)) (fun i => s.size - i) 60 (fun i => by omega) s.size 0
  unfold palRows; omega
theorem palW_len (s : ByteArray) : (palW s).length ≤ 3601 := by
  unfold palW; split
  · rename_i h
    have h1 := uniqS_len (⟨#[]⟩ :: palRows s)
    have h2 := palRows_len (shortB_iff.1 h).2
    simp only [List.length_cons] at h1; omega
  · simp
theorem palW_ins {s : ByteArray} (h : shortB s = true) : palW s = insAll [⟨#[]⟩] (palRows s) := by
  unfold palW; rw [if_pos h, uniqS_ins]
  show insAll (insS [] ⟨#[]⟩) (palRows s) = _
  rfl
/-- the squares -/
def sqP (s : ByteArray) (i n : Nat) : Bool := powB s.data.toList i (2 * n) n
def sqRows (s : ByteArray) : List ByteArray := rowsP (sqP s) (fun i n => s.extract i (i + 2 * n)) (fun i => (s.size - i) / 2) s.size 0
def sqW (s : ByteArray) : List ByteArray := if shortB s = true then uniqS (sqRows s) else []
theorem sqRows_len {s : ByteArray} (h : s.size ≤ 60) : (sqRows s).length ≤ 3600 := by
  have := rowsP_len (sqP s) (fun i n => s.extract i (i + 2 * n)) (fun i => (s.size - i) / 2) 60 (fun i => by omega) s.size 0
  unfold sqRows; omega
theorem sqW_len (s : ByteArray) : (sqW s).length ≤ 3601 := by
  unfold sqW; split
  · rename_i h
    have h1 := uniqS_len (sqRows s)
    have h2 := sqRows_len (shortB_iff.1 h).2
    omega
  · simp
end Go.Proofs.YtlmciomoimfajaaDoor
