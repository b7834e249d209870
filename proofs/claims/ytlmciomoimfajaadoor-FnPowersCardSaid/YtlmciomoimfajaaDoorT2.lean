/- Contract of the reference's l05Insert: a string put into an ascending row (insS). Conditions: a short row that lies in memory. -/
import Derived.Test.YtlmciomoimfajaaDoorT0
import Derived.Test.YtlmciomoimfajaaDoorS0
namespace Go.Proofs.YtlmciomoimfajaaDoor
open Go.RowKit
set_option linter.unusedVariables false

theorem addr_addS (g o j : Nat) : (⟨g, o, none⟩ : Addr).add j = ⟨g, o + j, none⟩ := by unfold Addr.add; split <;> simp_all
theorem own_shapeS {w : World} {B : Nat} {v : Value} {l : List ByteArray} (h : OwnS w B v l) (h0 : l ≠ []) : ∃ g c, v = .slice (some ⟨g, 0, none⟩) l.length c := by
  rcases h.2 with ⟨_, h1⟩ | ⟨g, cap, cur, hv, _⟩
  · exact absurd (List.eq_nil_of_length_eq_zero h1) h0
  · exact ⟨g, cap, hv⟩
/-- 'out = append(out, part...)': a part of a row that can be read -/
theorem appLS {w : World} {ops : Array Oper} {rest : List Oper} {o : Oper} {a : Act} {Q : Exit → Act → World → Prop} (hgd : o.guard = none) (s x : Operand)
    (ho : o.op = .call { callee := .builtin .append, args := #[s, x], argTypes := #[24, 24] })
    (base : Nat) (v : Value) (l : List ByteArray) (hs : a.eval s = v) (hown : OwnS w base v l) (g off m c : Nat) (news : List ByteArray)
    (hx : a.eval x = .slice (some ⟨g, off, none⟩) m c) (hm : news.length = m) (hnews : ∀ (j : Nat) y, news[j]? = some y → w.cell? ⟨g, off + j, none⟩ = some (.string y)) (hlen : l.length + m ≤ 1099511627776) (hbase : base ≤ w.heap.size)
    (h : ∀ v' w', OwnS w' base v' (l ++ news) → w.grownBy w' v.ownBlock → wpList Tryd.prog ops Q rest (a.put o.dst v') w') :
    wpList Tryd.prog ops Q (o :: rest) a w := by
  obtain ⟨i, hi, hz, h1, h2⟩ := info_parts info_str
  have e : sv l ++ sv news = sv (l ++ news) := by simp [sv]
  refine wpList_append_own w hgd s x 24 ho base 9 i _ 1 16 Tryd.underlying24 hi hz h1 h2 rfl (by decide) v l.length (sv l) hs hown ⟨g, off, none⟩ m c (sv news) hx (by rw [sv_len, hm, Nat.mul_one]) (fun j u hu => ?_) (fun u hu => ?_) (by unfold maxLen; omega) (by omega) hbase ?_
  · simp only [sv, List.getElem?_map, Option.map_eq_some_iff] at hu
    obtain ⟨y, hy, rfl⟩ := hu
    rw [addr_addS]; exact hnews j y hy
  · simp only [sv, List.mem_map] at hu
    obtain ⟨y, _, rfl⟩ := hu
    rfl
  · intro v' w' ho' hg' _
    rw [e, ← hm, ← List.length_append] at ho'
    exact h v' w' ho' hg'

end Go.Proofs.YtlmciomoimfajaaDoor
