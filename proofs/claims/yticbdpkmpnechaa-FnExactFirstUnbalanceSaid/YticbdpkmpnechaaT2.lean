/- Contract of the reference's l05Insert: a string put into an ascending row (insS). Conditions: a short row that lies in memory. -/
import Derived.Test.YticbdpkmpnechaaT0
import Derived.Test.YticbdpkmpnechaaS0
namespace Go.Proofs.Yticbdpkmpnechaa
open Go.RowKit
set_option linter.unusedVariables false

theorem addr_addS (g o j : Nat) : (⟨g, o, none⟩ : Addr).add j = ⟨g, o + j, none⟩ := by unfold Addr.add; split <;> simp_all
theorem own_shapeS {w : World} {B : Nat} {v : Value} {l : List ByteArray} (h : OwnS w B v l) (h0 : l ≠ []) : ∃ g c, v = .slice (some ⟨g, 0, none⟩) l.length c := by
  rcases h.2 with ⟨_, h1⟩ | ⟨g, cap, cur, hv, _⟩
  · exact absurd (List.eq_nil_of_length_eq_zero h1) h0
  · exact ⟨g, cap, hv⟩
/-- 'out = append(out, part...)': a part of a row that can be read -/
theorem appLS {w : World} {ops : Array Oper} {rest : List Oper} {o : Oper} {a : Act} {Q : Exit → Act → World → Prop} (hgd : o.guard = none) (s x : Operand)
    (ho : o.op = .call { callee := .builtin .append, args := #[s, x], argTypes := #[31, 31] })
    (base : Nat) (v : Value) (l : List ByteArray) (hs : a.eval s = v) (hown : OwnS w base v l) (g off m c : Nat) (news : List ByteArray)
    (hx : a.eval x = .slice (some ⟨g, off, none⟩) m c) (hm : news.length = m) (hnews : ∀ (j : Nat) y, news[j]? = some y → w.cell? ⟨g, off + j, none⟩ = some (.string y)) (hlen : l.length + m ≤ 1099511627776) (hbase : base ≤ w.heap.size)
    (h : ∀ v' w', OwnS w' base v' (l ++ news) → w.grownBy w' v.ownBlock → wpList Try.prog ops Q rest (a.put o.dst v') w') :
    wpList Try.prog ops Q (o :: rest) a w := by
  obtain ⟨i, hi, hz, h1, h2⟩ := info_parts info_str
  have e : sv l ++ sv news = sv (l ++ news) := by simp [sv]
  refine wpList_append_own w hgd s x 31 ho base 9 i _ 1 16 Try.underlying31 hi hz h1 h2 rfl (by decide) v l.length (sv l) hs hown ⟨g, off, none⟩ m c (sv news) hx (by rw [sv_len, hm, Nat.mul_one]) (fun j u hu => ?_) (fun u hu => ?_) (by unfold maxLen; omega) (by omega) hbase ?_
  · simp only [sv, List.getElem?_map, Option.map_eq_some_iff] at hu
    obtain ⟨y, hy, rfl⟩ := hu
    rw [addr_addS]; exact hnews j y hy
  · simp only [sv, List.mem_map] at hu
    obtain ⟨y, _, rfl⟩ := hu
    rfl
  · intro v' w' ho' hg' _
    rw [e, ← hm, ← List.length_append] at ho'
    exact h v' w' ho' hg'

set_option maxRecDepth 20000 in
set_option maxHeartbeats 2000000 in
theorem l05Insert_c (g cap B : Nat) (l : List ByteArray) (x : ByteArray) (w : World) (h : OwnS w B (.slice (some ⟨g, 0, none⟩) l.length cap) l) (hl : l.length ≤ 1000000) (hB : B ≤ w.heap.size) :
    Calls Try.prog 61 #[.slice (some ⟨g, 0, none⟩) l.length cap, .string x] w fun e w' => ∃ g' cap', e = .returned (.slice (some ⟨g', 0, none⟩) (insS l x).length cap') ∧ OwnS w' B (.slice (some ⟨g', 0, none⟩) (insS l x).length cap') (insS l x) ∧ Below w.heap.size w w' := by
  have hcap : l.length ≤ cap := by
    rcases h.2 with ⟨h0, _⟩ | ⟨_, _, _, hv, _, _, hn, _⟩
    · cases h0
    · cases hv; exact hn
  have hrd : ∀ j, j < l.length → w.cell? ⟨g, j, none⟩ = some (.string (gS l j)) := fun j hj => by
    rcases OwnS.rd h with ⟨h0, _⟩ | ⟨_, _, hv, _, hc⟩
    · cases h0
    · cases hv; exact hc j _ (gS_get hj)
  have hg : g < w.heap.size := (World.ownsRow.lt (h : w.ownsRow B 9 1 _ _ _) g rfl).2
  have hread : ∀ w', Below w.heap.size w w' → ∀ j y, l[j]? = some y → w'.cell? ⟨g, j, none⟩ = some (.string y) := by
    intro w' hb j y hj
    have hjl := (List.getElem?_eq_some_iff.1 hj).1
    have := hrd j hjl
    rw [gS_get hjl] at hj
    rw [← Option.some.inj hj, hb.cell (p := ⟨g, j, none⟩) hg]; exact this
  have HREAD := Lib.hid hread
  have H := Lib.hid h
  have HRD := Lib.hid hrd
  obtain ⟨N, hN⟩ : ∃ N, N = l.length := ⟨_, rfl⟩
  have HN := Lib.hid hN
  have hst : Hid (posKS l x N = posS l x) := by rw [hN]; rfl
  rw [← hN] at hcap hl ⊢
  clear h hrd hN hread
  have hst' : ∀ k, k ≤ N → 0 < k → posKS l x k = posS l x → (gtS (gS l (k - 1)) x = true → posKS l x (k - 1) = posS l x) ∧ (gtS (gS l (k - 1)) x = false → k = posS l x) := by
    intro k _ h0 h1
    obtain ⟨j, rfl⟩ : ∃ j, k = j + 1 := ⟨k - 1, by omega⟩
    rw [posKS] at h1
    constructor
    · intro hx; rw [Nat.add_sub_cancel] at hx ⊢; rw [if_pos hx] at h1; exact h1
    · intro hx; rw [Nat.add_sub_cancel] at hx; rw [if_neg (by rw [hx]; decide)] at h1; exact h1
  have HST := Lib.hid hst'
  have hnot : ∀ k, k = posS l x → (k = 0 ∨ gS l (k - 1) ≠ x) → insS l x = l.take k ++ [x] ++ l.drop k := by
    intro k hk h
    unfold insS
    rw [← hk, if_neg]
    rintro ⟨h1, h2⟩
    rcases h with h | h
    · omega
    · exact h h2
  have HNOT := Lib.hid hnot
  have hyes : ∀ k, k = posS l x → 0 < k → gS l (k - 1) = x → insS l x = l := by
    intro k hk h0 h
    unfold insS
    rw [← hk, if_pos ⟨h0, h⟩]
  have HYES := Lib.hid hyes
  clear hst' hnot hyes
  go_enter Try.func61, Try.ntmps61
  go_wp2
  go_loop [5] (fun i => ∃ k : Nat, k ≤ N ∧ i = .int .i64 k ∧ Hid (posKS l x k = posS l x)) (fun i => (intOf i).toNat)
  case atStart => exact ⟨N, Nat.le_refl _, rfl, hst⟩
  case round =>
    obtain ⟨k, hk, rfl, hp⟩ := hrel
    by_cases h0 : 0 < k
    · have hd : decide (0 < (k : Int)) = true := by simp; omega
      obtain ⟨y, hy⟩ : ∃ y, y = gS l (k - 1) := ⟨_, rfl⟩
      have cy : w.cell? ⟨g, k - 1, none⟩ = some (.string y) := by rw [hy]; exact HRD.out (k - 1) (by rw [← HN.out]; omega)
      have b2 : (k : Int) - 1 < (N : Int) := by omega
      have b0 : 0 ≤ (k : Int) - 1 := by omega
      have b3 : (1 : Int) ≤ (k : Int) := by omega
      have e1 : IntKind.i64.wrap ((k : Int) - 1) = (k : Int) - 1 := IntWalk.i64_in _ (by omega)
      have e2 : ((k : Int) - 1).toNat = k - 1 := by omega
      have hS := HST.out k hk h0 hp.out
      rw [← hy] at hS
      cases he : (y.toList == x.toList)
      · cases hb : Op.bytesLess y.toList x.toList
        · have hnx := Lib.hid (hS.1 (by unfold gtS; rw [hb, he]; rfl))
          clear hS hy
          go_wp2
          go_round
          case rel => exact ⟨k - 1, by omega, by go_num, hnx⟩
          case measure => simp [intOf] <;> omega
        · have hpos := hS.2 (by unfold gtS; rw [hb, he]; rfl)
          have hyx := Lib.hid (HNOT.out k hpos (.inr (by rw [← hy]; exact str_bne he)))
          clear hS hy hpos
          have HE := Lib.hid (ownS_empty w (Nat.le_refl _))
          have HBE : Hid (Below w.heap.size w (w.alloc (.cells #[] 9))) := (Below.refl _ _).alloc (Nat.le_refl _) _
          have hsE : w.heap.size ≤ (w.alloc (.cells #[] 9)).heap.size := HBE.out.size
          have htk : (l.take k).length = k := by rw [List.length_take, ← HN.out]; omega
          have hdk : (l.drop k).length = N - k := by rw [List.length_drop, ← HN.out]
          have HR1 : Hid (∀ (j : Nat) y, (l.take k)[j]? = some y → (w.alloc (.cells #[] 9)).cell? ⟨g, 0 + j, none⟩ = some (.string y)) := fun j y hj => by
            rw [Nat.zero_add]; refine HREAD.out _ HBE.out j y ?_
            rw [List.getElem?_take] at hj; split at hj
            · exact hj
            · cases hj
          have hlen1 : (l.take k ++ [x]).length = k + 1 := by rw [List.length_append, htk]; rfl
          have hl3 : (l.take k ++ [x]).length + (N - k) ≤ 1099511627776 := by rw [hlen1]; omega
          have b5 : (k : Int) ≤ (N : Int) := by omega
          have b6 : (k : Int) ≤ (cap : Int) := by omega
          have b7 : 0 ≤ (k : Int) := by omega
          go_wp2_with (at_builtin; first
            | (refine appLS rfl _ _ rfl w.heap.size (.slice (some ⟨w.heap.size, 0, none⟩) 0 0) [] rfl (by exact HE.out) g 0 k cap (l.take k) rfl (by exact htk) (by exact HR1.out) (by simp; omega) (by exact hsE) ?_; intro v1 w1 hown1 hg1; have HO1 := Lib.hid hown1; have HB1 := Lib.hid (below_app HBE.out HE.out hg1 hsE); have hs1 := HB1.out.size; clear hown1 hg1)
            | (refine appS rfl _ _ rfl w.heap.size v1 (l.take k) rfl (by exact HO1.out) _ rfl (by omega) (by exact hs1) ?_; intro v2 w2 hown2 hg2; have HO2 := Lib.hid hown2; have HB2 := Lib.hid (below_app HB1.out HO1.out hg2 hs1); have hs2 := HB2.out.size; have HR3 : Hid (∀ (j : Nat) y, (l.drop k)[j]? = some y → w2.cell? ⟨g, k + j, none⟩ = some (.string y)) := (fun j y hj => HREAD.out _ HB2.out _ y (by rw [List.getElem?_drop] at hj; exact hj)); clear hown2 hg2)
            | (refine un_hid ?_))
          all_goals
            refine Lib.hid ?_
            refine appLS rfl _ _ rfl w.heap.size v2 (l.take k ++ [x]) rfl (by exact HO2.out) g _ _ _ (l.drop k) rfl (by first | exact hdk | (rw [hdk]; omega)) (by first | exact HR3.out | (intro j y hj; rw [List.getElem?_eq_none (by rw [hdk]; omega)] at hj; cases hj)) (by first | exact hl3 | omega) (by exact hs2) ?rest
            case rest =>
              intro v3 w3 hown3 hg3
              have HB3 := Lib.hid (below_app HB2.out HO2.out hg3 hs2)
              obtain ⟨g3, cap3, rfl⟩ := own_shapeS hown3 (by simp)
              have HO3 := Lib.hid (own_base hown3 hB)
              rw [← hyx.out] at HO3 ⊢
              clear hown3 hg3
              go_wp2
              go_ret
              exact ⟨g3, cap3, rfl, HO3.out, HB3.out⟩
      · have hpos := hS.2 (by unfold gtS; rw [he, Bool.or_true]; rfl)
        have hyx := Lib.hid (HYES.out k hpos h0 (by rw [← hy]; exact str_beq he))
        clear hS hy hpos
        have HO := Lib.hid H.out
        rw [← HN.out] at HO
        have HL : Hid ((insS l x).length = N) := by rw [hyx.out]; exact HN.out.symm
        cases hb : Op.bytesLess y.toList x.toList
        all_goals
          go_wp2
          go_ret
          refine ⟨g, cap, ?_, ?_, Below.refl _ _⟩
          · rw [HL.out]; rfl
          · rw [HL.out, hyx.out]; exact HO.out
    · have hyx := Lib.hid (HNOT.out k (by have := hp.out; have h00 : k = 0 := by omega
                                          subst h00; exact this) (.inl (by omega)))
      have hd : decide (0 < (k : Int)) = false := decide_eq_false (by omega)
      have HE := Lib.hid (ownS_empty w (Nat.le_refl _))
      have HBE : Hid (Below w.heap.size w (w.alloc (.cells #[] 9))) := (Below.refl _ _).alloc (Nat.le_refl _) _
      have hsE : w.heap.size ≤ (w.alloc (.cells #[] 9)).heap.size := HBE.out.size
      have htk : (l.take k).length = k := by rw [List.length_take, ← HN.out]; omega
      have hdk : (l.drop k).length = N - k := by rw [List.length_drop, ← HN.out]
      have HR1 : Hid (∀ (j : Nat) y, (l.take k)[j]? = some y → (w.alloc (.cells #[] 9)).cell? ⟨g, 0 + j, none⟩ = some (.string y)) := fun j y hj => by
        rw [Nat.zero_add]; refine HREAD.out _ HBE.out j y ?_
        rw [List.getElem?_take] at hj; split at hj
        · exact hj
        · cases hj
      have hlen1 : (l.take k ++ [x]).length = k + 1 := by rw [List.length_append, htk]; rfl
      have hl3 : (l.take k ++ [x]).length + (N - k) ≤ 1099511627776 := by rw [hlen1]; omega
      have b5 : (k : Int) ≤ (N : Int) := by omega
      have b6 : (k : Int) ≤ (cap : Int) := by omega
      have b7 : 0 ≤ (k : Int) := by omega
      go_wp2_with (at_builtin; first
        | (refine appLS rfl _ _ rfl w.heap.size (.slice (some ⟨w.heap.size, 0, none⟩) 0 0) [] rfl (by exact HE.out) g 0 k cap (l.take k) rfl (by exact htk) (by exact HR1.out) (by simp; omega) (by exact hsE) ?_; intro v1 w1 hown1 hg1; have HO1 := Lib.hid hown1; have HB1 := Lib.hid (below_app HBE.out HE.out hg1 hsE); have hs1 := HB1.out.size; clear hown1 hg1)
        | (refine appS rfl _ _ rfl w.heap.size v1 (l.take k) rfl (by exact HO1.out) _ rfl (by omega) (by exact hs1) ?_; intro v2 w2 hown2 hg2; have HO2 := Lib.hid hown2; have HB2 := Lib.hid (below_app HB1.out HO1.out hg2 hs1); have hs2 := HB2.out.size; have HR3 : Hid (∀ (j : Nat) y, (l.drop k)[j]? = some y → w2.cell? ⟨g, k + j, none⟩ = some (.string y)) := (fun j y hj => HREAD.out _ HB2.out _ y (by rw [List.getElem?_drop] at hj; exact hj)); clear hown2 hg2)
        | (refine un_hid ?_))
      all_goals
        refine Lib.hid ?_
        refine appLS rfl _ _ rfl w.heap.size v2 (l.take k ++ [x]) rfl (by exact HO2.out) g _ _ _ (l.drop k) rfl (by first | exact hdk | (rw [hdk]; omega)) (by first | exact HR3.out | (intro j y hj; rw [List.getElem?_eq_none (by rw [hdk]; omega)] at hj; cases hj)) (by first | exact hl3 | omega) (by exact hs2) ?rest
        case rest =>
          intro v3 w3 hown3 hg3
          have HB3 := Lib.hid (below_app HB2.out HO2.out hg3 hs2)
          obtain ⟨g3, cap3, rfl⟩ := own_shapeS hown3 (by simp)
          have HO3 := Lib.hid (own_base hown3 hB)
          rw [← hyx.out] at HO3 ⊢
          clear hown3 hg3
          go_wp2
          go_ret
          exact ⟨g3, cap3, rfl, HO3.out, HB3.out⟩
end Go.Proofs.Yticbdpkmpnechaa
