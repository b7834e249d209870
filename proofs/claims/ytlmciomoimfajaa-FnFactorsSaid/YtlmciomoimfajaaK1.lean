/- Rows of pairs of numbers ([][]int, each of two): owned, appended to; the plain convergents; contracts of areQuotients and l12Quotients. Conditions: short rows. -/
import Derived.Test.YtlmciomoimfajaaM1
import Derived.Test.YtlmciomoimfajaaA1
namespace Go.Proofs.Ytlmciomoimfajaa
open Go.RowKit
set_option linter.unusedVariables false

/-! the plain part -/
def mnI (i : Nat) : Int := if i = 0 then 0 else 1
def cfAll : Nat → List Int → Bool
  | _, [] => true
  | i, k :: r => inB k (mnI i) 1000 && cfAll (i + 1) r
def cfOk (ks : List Int) : Bool := inB ks.length 1 20 && cfAll 0 ks
/-- the convergents; none if one is too great -/
def cvGo : Int → Int → Int → Int → List Int → Option (List (Int × Int))
  | _, _, _, _, [] => some []
  | a, b, c, d, k :: r =>
    if k * c + a > 1000000000 ∨ k * d + b > 1000000000 then none
    else match cvGo c d (k * c + a) (k * d + b) r with
      | none => none
      | some l => some ((k * c + a, k * d + b) :: l)
def cvW (ks : List Int) : Option (List (Int × Int)) := if cfOk ks = true then cvGo 0 1 1 0 ks else none
theorem mn_eq (i : Nat) : (if (i : Int) ≤ 1 then (i : Int) else 1) = mnI i := by unfold mnI; split <;> split <;> omega
theorem cfAll_drop {ks : List Int} {i : Nat} {k : Int} (h : ks[i]? = some k) : cfAll i (ks.drop i) = (inB k (mnI i) 1000 && cfAll (i + 1) (ks.drop (i + 1))) := by
  have hi := (List.getElem?_eq_some_iff.1 h).1
  rw [List.drop_eq_getElem_cons hi, (List.getElem?_eq_some_iff.1 h).2]; rfl

/-! rows of pairs -/
theorem info_ints : (Try.prog.info? 24).map (fun i => (i.zero, i.size, i.bytes)) = some (some (.slice none 0 0), 1, 24) := by kernel_rfl
def slv (g : Nat) : Value := .slice (some ⟨g, 0, none⟩) 2 2
def OwnR (w : World) (B : Nat) (v : Value) (ps : List (Int × Int)) : Prop :=
  ∃ gs : List Nat, gs.Nodup ∧ gs.length = ps.length ∧ w.ownsRow B 24 1 v ps.length (gs.map slv) ∧ ∀ (i : Nat) g p, gs[i]? = some g → ps[i]? = some p → w.heap[g]? = some (.cells #[.int .i64 p.1, .int .i64 p.2] 3 (0, 0)) ∧ B ≤ g
theorem ownR_apart {w : World} {B : Nat} {v : Value} {n g : Nat} {xs cur : List Value} {c : Array Value} (h : w.ownsRow B 24 1 v n xs) (hg : w.heap[g]? = some (.cells c 3 (0, 0))) : v.ownBlock ≠ some g := by
  rcases h.2 with ⟨rfl, _⟩ | ⟨g', cap, cu, rfl, _, hb, _⟩
  · simp [Value.ownBlock]
  · intro e
    have e' : g' = g := by simpa [Value.ownBlock] using e
    rw [e', hg] at hb
    cases hb
theorem ownR_grown {w w' : World} {B : Nat} {v : Value} {ps : List (Int × Int)} (h : OwnR w B v ps) {r : Option Nat} (hg : w.grownBy w' r) (hr : ∀ k, r = some k → k < B) : OwnR w' B v ps := by
  obtain ⟨gs, hnd, hl, ho, hc⟩ := h
  refine ⟨gs, hnd, hl, ho.kept hg ?_, fun i g p h1 h2 => ?_⟩
  · cases hv : v.ownBlock with
    | none => exact .inl rfl
    | some g => exact .inr fun e => by have := (ho.lt g hv).1; have := hr g e.symm; omega
  · obtain ⟨h3, h4⟩ := hc i g p h1 h2
    refine ⟨?_, h4⟩
    rw [hg.block g (Array.getElem?_eq_some_iff.1 h3).1 (fun e => by have := hr g e.symm; omega)]; exact h3
theorem ownR_empty {B : Nat} (w : World) (hb : B ≤ w.heap.size) : OwnR (w.alloc (.cells #[] 24)) B (.slice (some ⟨w.heap.size, 0, none⟩) 0 0) [] :=
  ⟨[], List.nodup_nil, rfl, World.ownsRow_made w #[] 0 hb (Nat.zero_le _) rfl, fun i g p h => by simp at h⟩
theorem ownR_nil (w : World) (B : Nat) : OwnR w B (.slice none 0 0) [] := ⟨[], List.nodup_nil, rfl, World.ownsRow_nil _ _ _ _, fun i g p h => by simp at h⟩

/-- 'out = append(out, []int{c, d})' -/
theorem appR {w0 : World} {ops : Array Oper} {rest : List Oper} {o : Oper} {a : Act} {Q : Exit → Act → World → Prop} (hgd : o.guard = none) (s x : Operand)
    (ho : o.op = .call { callee := .builtin .append, args := #[s, x], argTypes := #[51, 51] })
    (base : Nat) (v : Value) (ps : List (Int × Int)) (hs : a.eval s = v) (hown : OwnR w0 base v ps) (c d : Int)
    (hx : a.eval x = .slice (some ⟨w0.heap.size + 1, 0, none⟩) 1 1) (hlen : ps.length ≤ 1000000) (hbase : base ≤ w0.heap.size)
    (h : ∀ v' w', OwnR w' base v' (ps ++ [(c, d)]) → w0.grownBy w' v.ownBlock → wpList Try.prog ops Q rest (a.put o.dst v') w') :
    wpList Try.prog ops Q (o :: rest) a ((w0.alloc (.cells #[.int .i64 c, .int .i64 d] 3)).alloc (.cells #[.slice (some ⟨w0.heap.size, 0, none⟩) 2 2] 24)) := by
  obtain ⟨gs, hnd, hl, hr, hc⟩ := hown
  have hlow : ∀ g ∈ gs, g < w0.heap.size := by
    intro g hg
    obtain ⟨i, hi, e⟩ := List.mem_iff_getElem.1 hg
    have := hc i g (ps[i]'(by omega)) (by rw [List.getElem?_eq_getElem hi, e]) (List.getElem?_eq_getElem (by omega))
    exact (Array.getElem?_eq_some_iff.1 this.1).1
  have hsz : (w0.alloc (.cells #[.int .i64 c, .int .i64 d] 3)).heap.size = w0.heap.size + 1 := by simp
  refine append1 hgd s x 51 24 ho _ 24 info_ints Try.underlying51 rfl base v (gs.map slv) hs (by rw [List.length_map, hl]; exact hr.alloc _) (slv w0.heap.size) rfl (by rw [hsz]; exact hx) (by rw [List.length_map, hl]; unfold maxLen; omega) (by rw [List.length_map, hl]; omega) (by rw [hsz]; omega) ?_
  intro v' w' ho' hg'
  have hnew : w'.heap[w0.heap.size]? = some (.cells #[.int .i64 c, .int .i64 d] 3 (0, 0)) := by
    have h1 : (w0.alloc (.cells #[.int .i64 c, .int .i64 d] 3)).heap[w0.heap.size]? = some (.cells #[.int .i64 c, .int .i64 d] 3 (0, 0)) := heap_alloc_new w0 _
    rw [hg'.block _ (by rw [hsz]; omega) (fun e => ?_)]
    · exact h1
    · have := (hr.lt _ e.symm).2; omega
  refine h v' w' ⟨gs ++ [w0.heap.size], ?nd, by simp [hl], ?_, fun i g p h1 h2 => ?_⟩ (grown_alloc hg')
  case nd =>
    rw [List.nodup_append]
    refine ⟨hnd, by simp, fun a ha b hb => ?_⟩
    simp at hb; subst hb
    have := hlow a ha; omega
  · have e : (gs ++ [w0.heap.size]).map slv = gs.map slv ++ [slv w0.heap.size] := by simp
    rw [e]
    have e2 : (ps ++ [(c, d)]).length = (gs.map slv ++ [slv w0.heap.size]).length := by simp [hl]
    rw [e2]; exact ho'
  · rcases Nat.lt_or_ge i gs.length with hi | hi
    · rw [List.getElem?_append_left hi] at h1
      rw [List.getElem?_append_left (by omega)] at h2
      obtain ⟨h3, h4⟩ := hc i g p h1 h2
      have hgl := (Array.getElem?_eq_some_iff.1 h3).1
      refine ⟨?_, h4⟩
      rw [(grown_alloc hg').block g hgl (fun e => ownR_apart (cur := []) hr h3 e.symm)]; exact h3
    · rw [List.getElem?_append_right hi] at h1
      rw [List.getElem?_append_right (by omega)] at h2
      have hi0 : i - gs.length = 0 := by
        have := (List.getElem?_eq_some_iff.1 h1).1; simp at this; omega
      rw [hi0] at h1
      rw [show i - ps.length = 0 by omega] at h2
      simp only [List.getElem?_cons_zero, Option.some.injEq] at h1 h2
      subst h1 h2
      exact ⟨hnew, hbase⟩
end Go.Proofs.Ytlmciomoimfajaa
