/- Contracts of CountAfter and LengthAfter in the program: how many letters of each kind a word has that was put through so many times. Conditions: a valid substitution whose images can be read, a short word over its letters. -/
import Derived.Test.YtlmciomoimfajaaX3
import Derived.Test.YtlmciomoimfajaaX8
import Derived.Deep.RegionLaw
import Derived.Deep.AppendLies
import Derived.ChangeAlike
import Derived.BigRegion
namespace Go.Proofs.Ytlmciomoimfajaa
open Go.RowKit
set_option linter.unusedVariables false

def fnL (n : Nat) (f : Nat → Int) : List Int := (List.range n).map f
theorem fnL_len (n : Nat) (f : Nat → Int) : (fnL n f).length = n := by simp [fnL]
theorem fnL_get {n : Nat} (f : Nat → Int) {k : Nat} (h : k < n) : (fnL n f)[k]? = some (f k) := by simp [fnL, h]
theorem fnL_congr {n : Nat} {f g : Nat → Int} (h : ∀ a, a < n → f a = g a) : fnL n f = fnL n g := List.map_congr_left fun a ha => h a (List.mem_range.1 ha)
theorem fnL_set (n : Nat) (f : Nat → Int) (i : Nat) (x : Int) : (fnL n f).set i x = fnL n (fun a => if a = i then x else f a) := by
  apply List.ext_getElem?
  intro k
  by_cases hk : k < n
  · rw [fnL_get _ hk]
    by_cases hki : k = i
    · subst hki; rw [List.getElem?_set_self (by rw [fnL_len]; exact hk), if_pos rfl]
    · rw [List.getElem?_set_ne (fun e => hki e.symm), fnL_get _ hk, if_neg hki]
  · rw [List.getElem?_eq_none (by rw [List.length_set, fnL_len]; omega), List.getElem?_eq_none (by rw [fnL_len]; omega)]
theorem fn_stored {w : World} {B g cap n : Nat} {f : Nat → Int} (i : Nat) (x : Int) (h : OwnI w B (.slice (some ⟨g, 0, none⟩) n cap) (fnL n f)) :
    OwnI (w.setCell ⟨g, i, none⟩ (.int .i64 x)) B (.slice (some ⟨g, 0, none⟩) n cap) (fnL n (fun a => if a = i then x else f a)) ∧ w.grownBy (w.setCell ⟨g, i, none⟩ (.int .i64 x)) (some g) := by
  unfold OwnI at h ⊢
  rw [fnL_len] at h ⊢
  have := World.ownsRow.stored h i (.int .i64 x)
  rw [iv_set, fnL_set] at this
  exact this
theorem fn_cell {w : World} {B g cap n : Nat} {f : Nat → Int} {k : Nat} (hk : k < n) (h : OwnI w B (.slice (some ⟨g, 0, none⟩) n cap) (fnL n f)) :
    w.cell? ⟨g, k, none⟩ = some (.int .i64 (f k)) ∧ w.frozen? ⟨g, k, none⟩ = false := by
  unfold OwnI at h
  rw [fnL_len] at h
  refine ⟨?_, World.ownsRow.frozenAt h _⟩
  have hc := World.ownsRow.cellAt h k (by omega)
  rw [hc]; simp [iv, fnL, hk]
theorem fn_made {w : World} {B n : Nat} {v : Value} (h : w.ownsRow B 3 1 v n (madeCells (Value.int .i64 0).cells (n * 1)).toList) : OwnI w B v (fnL n (fun _ => 0)) := by
  have e : (madeCells (Value.int .i64 0).cells (n * 1)).toList = iv (fnL n (fun _ => 0)) := by
    rw [Nat.mul_one]
    refine (toList_madeCells_one _ _).trans ?_
    unfold iv fnL
    rw [List.map_map]
    apply List.ext_getElem?
    intro k
    by_cases hk : k < n
    · simp [hk]
    · simp [hk]
  unfold OwnI
  rw [← e, fnL_len]; exact h
/-- what the counts are while the next ones are reckoned: T is done, S is the sum so far -/
def phF (T : Nat → Int) (i : Nat) (s : Int) (a : Nat) : Int := if a < i then T a else if a = i then s else 0
theorem phF_zero (T : Nat → Int) (n : Nat) : fnL n (fun _ => 0) = fnL n (phF T 0 0) := fnL_congr fun a _ => by unfold phF; rw [if_neg (by omega)]; split <;> rfl
theorem phF_set (T : Nat → Int) (n i : Nat) (s x : Int) : fnL n (fun a => if a = i then x else phF T i s a) = fnL n (phF T i x) := fnL_congr fun a _ => by
  unfold phF
  by_cases h : a = i
  · rw [if_pos h, if_neg (by omega), if_pos h]
  · rw [if_neg h, if_neg h, if_neg h]
theorem phF_next (T : Nat → Int) (n i : Nat) : fnL n (phF T i (T i)) = fnL n (phF T (i + 1) 0) := fnL_congr fun a _ => by
  unfold phF
  by_cases h1 : a < i
  · rw [if_pos h1, if_pos (by omega)]
  · by_cases h2 : a = i
    · rw [if_neg h1, if_pos h2, if_pos (by omega), h2]
    · rw [if_neg h1, if_neg h2, if_neg (by omega)]; split <;> rfl
theorem phF_end (T : Nat → Int) (n : Nat) (s : Int) : fnL n (phF T n s) = fnL n T := fnL_congr fun a ha => by unfold phF; rw [if_pos ha]
theorem phF_at (T : Nat → Int) (i : Nat) (s : Int) : phF T i s i = s := by unfold phF; rw [if_neg (by omega), if_pos rfl]
/-- 'append([]int{}, counts...)' at a step of a region that draws -/
theorem stepCp {w0 : World} {ops : Array Oper} {o : Oper} {a : Act} {K : Act → World → Prop} {Q : Exit → Act → World → Prop} {E : Prop} (hgd : o.guard = none) (s x : Operand)
    (ho : o.op = .call { callee := .builtin .append, args := #[s, x], argTypes := #[24, 24] })
    (base b0 : Nat) (hs : a.eval s = .slice (some ⟨b0, 0, none⟩) 0 0) (hown : OwnI w0 base (.slice (some ⟨b0, 0, none⟩) 0 0) []) (l : List Int) (gc n cc : Nat) (hln : l.length = n) (h1 : 1 ≤ n) (h2 : n ≤ 1000000)
    (hrd : ∀ (j : Nat) (y : Int), l[j]? = some y → w0.cell? ⟨gc, j, none⟩ = some (.int .i64 y)) (hx : a.eval x = .slice (some ⟨gc, 0, none⟩) n cc) (hbase : base ≤ w0.heap.size)
    (h : ∀ v' w', OwnI w' base v' l → w0.grownBy w' (some b0) → K (a.put o.dst v') w') :
    if Region.wanted o (yielded ops a.tmps) = true then Oper.wp Try.prog o a w0 K Q else E := by
  obtain ⟨i, hi, hz, h3, h4⟩ := info_parts info_int
  refine step_append_lies _ hgd s x 24 ho base 3 i _ 1 8 Try.underlying24 hi hz h3 h4 rfl (by decide) (.slice (some ⟨b0, 0, none⟩) 0 0) 0 [] hs hown ⟨gc, 0, none⟩ n cc (iv l) hx (by rw [iv_len, hln, Nat.mul_one]) (fun j u hu => ?_) (fun u hu => ?_) (by omega) (by unfold maxLen; omega) (by omega) hbase _ rfl ?_
  · simp only [iv, List.getElem?_map, Option.map_eq_some_iff] at hu
    obtain ⟨y, hy, rfl⟩ := hu
    have : (⟨gc, 0, none⟩ : Addr).add j = ⟨gc, j, none⟩ := by unfold Addr.add; split <;> simp_all
    rw [this]; exact hrd j y hy
  · simp only [iv, List.mem_map] at hu
    obtain ⟨y, _, rfl⟩ := hu
    rfl
  · intro g cap w' ho' hg' _ _
    refine h _ w' ?_ hg'
    unfold OwnI
    rw [hln]
    simpa using ho'
end Go.Proofs.Ytlmciomoimfajaa
