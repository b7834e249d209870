/- Rows of bytes that a conversion of a string made (they bear a mark behind their end), owned and appended to. No function of the program. -/
import Derived.Test.YtlmciomoimfajaaDoorX3
import Derived.Lib.FrozenHead
import Derived.Lib.ConvBytes
import Derived.Deep.RegionLaw
import Derived.Deep.AppendLies
namespace Go.Proofs.YtlmciomoimfajaaDoor
open Go.RowKit
set_option linter.unusedVariables false

/-- a row of bytes of the call's own; its mark is none or lies behind its end -/
def OwnM (w : World) (B : Nat) (v : Value) (l : List UInt8) : Prop :=
  ∃ g cap cur fz, v = .slice (some ⟨g, 0, none⟩) l.length cap ∧ B ≤ g ∧ w.heap[g]? = some (.cells cur 5 fz) ∧ (fz.2 = 0 ∨ cap ≤ fz.1) ∧ l.length ≤ cap ∧ cap ≤ maxLen ∧ cur.size = cap ∧ cur.toList.take l.length = bv l
theorem OwnM.lt {w : World} {B : Nat} {v : Value} {l : List UInt8} (h : OwnM w B v l) : ∀ k, v.ownBlock = some k → B ≤ k ∧ k < w.heap.size := by
  obtain ⟨g, cap, cur, fz, rfl, hb, hg, _⟩ := h
  intro k hk
  have e : g = k := by simpa [Value.ownBlock] using hk
  subst e; exact ⟨hb, (Array.getElem?_eq_some_iff.1 hg).1⟩
theorem OwnM.kept {w w' : World} {B : Nat} {v : Value} {l : List UInt8} {r : Option Nat} (h : OwnM w B v l) (hg : w.grownBy w' r) (hr : v.ownBlock ≠ r) : OwnM w' B v l := by
  obtain ⟨g, cap, cur, fz, rfl, hb, hgg, h1⟩ := h
  refine ⟨g, cap, cur, fz, rfl, hb, ?_, h1⟩
  rw [hg.block g (Array.getElem?_eq_some_iff.1 hgg).1 (fun e => hr (by rw [← e]; rfl))]; exact hgg
theorem OwnM.alloc {w : World} {B : Nat} {v : Value} {l : List UInt8} (h : OwnM w B v l) (o : Obj) : OwnM (w.alloc o) B v l := by
  obtain ⟨g, cap, cur, fz, rfl, hb, hgg, h1⟩ := h
  refine ⟨g, cap, cur, fz, rfl, hb, ?_, h1⟩
  rw [Below.heap_alloc w o g (Array.getElem?_eq_some_iff.1 hgg).1]; exact hgg
theorem OwnM.drew {w : World} {B : Nat} {v : Value} {l : List UInt8} (h : OwnM w B v l) : OwnM w.drew B v l := h
theorem addr0 (g j : Nat) : (⟨g, 0, none⟩ : Addr).add j = ⟨g, j, none⟩ := by unfold Addr.add; split <;> simp_all
theorem addrO (g o j : Nat) : (⟨g, o, none⟩ : Addr).add j = ⟨g, o + j, none⟩ := by unfold Addr.add; split <;> simp_all
theorem OwnM.read {w : World} {B : Nat} {v : Value} {l : List UInt8} (h : OwnM w B v l) : ∃ g cap, v = .slice (some ⟨g, 0, none⟩) l.length cap ∧ l.length ≤ cap ∧ ∀ j (hj : j < l.length), w.cell? ⟨g, j, none⟩ = some (.int .u8 (l[j].toNat : Int)) := by
  obtain ⟨g, cap, cur, fz, rfl, hb, hg, _, h1, _, h3, h4⟩ := h
  refine ⟨g, cap, rfl, h1, fun j hj => ?_⟩
  have hc : (cur.toList.take l.length)[j]? = (bv l)[j]? := by rw [h4]
  rw [List.getElem?_take, if_pos hj] at hc
  unfold World.cell?
  rw [hg]
  show cur[j]? = _
  rw [← Array.getElem?_toList, hc]
  simp [bv, List.getElem?_eq_getElem hj]
theorem below_appM {B : Nat} {a w w' : World} {v : Value} {l : List UInt8} (hb : Below B a w) (ho : OwnM w B v l) (hg : w.grownBy w' v.ownBlock) (hB : B ≤ w.heap.size) : Below B a w' :=
  hb.grown hg hB fun q hq => (ho.lt q hq).1

/-- cells stored into a row whose mark lies behind its end -/
theorem storeM (P : Program) (g : Nat) (t : TypeId) (fz : Nat × Nat) : ∀ (vs : List Value) (o i : Nat) (cur : Array Value) (w : World), w.heap[g]? = some (.cells cur t fz) → (fz.2 = 0 ∨ cur.size ≤ fz.1) → o + i + vs.length ≤ cur.size → (∀ v ∈ vs, v.oneCell' = true) →
    (storeCells ⟨g, o, none⟩ vs i).run P w = .ok () (w.setRow g (cur.toList.take (o + i) ++ vs ++ cur.toList.drop (o + i + vs.length)).toArray)
  | [], o, i, cur, w, hg, _, _, _ => by
    simp only [storeCells, List.append_nil, List.length_nil, Nat.add_zero, List.take_append_drop, Array.toArray_toList]
    rw [setRow_self w g cur t fz hg]
    rfl
  | v :: rest, o, i, cur, w, hg, hfz, hl, h1 => by
    have hi : o + i < cur.size := by simp at hl; omega
    have hcell : w.cell? ⟨g, o + i, none⟩ = some cur[o + i] := by simp [World.cell?, hg, hi]
    have hfro : w.frozen? ⟨g, o + i, none⟩ = false := by
      obtain ⟨lo, up⟩ := fz
      simp only [World.frozen?, hg, Bool.and_eq_false_iff, decide_eq_false_iff_not]
      simp only at hfz
      rcases hfz with h | h
      · right; omega
      · left; omega
    have hst : (store ((⟨g, o, none⟩ : Addr).add i) v).run P w = .ok () (w.setRow g (cur.setIfInBounds (o + i) v)) := by
      rw [addrO, run_store P w _ v _ (h1 v (by simp)), hcell]
      simp [hfro, setCell_eq_setRow w g (o + i) cur t fz v hg]
    have ih := storeM P g t fz rest o (i + 1) (cur.setIfInBounds (o + i) v) (w.setRow g (cur.setIfInBounds (o + i) v)) (setRow_heap w g cur _ t _ hg) (by simpa using hfz) (by simp at hl ⊢; omega) (fun x hx => h1 x (by simp [hx]))
    simp only [storeCells, Sem.run_bind, hst, Result.andThen_ok, ih, setRow_setRow]
    congr 3
    have e := list_seg_step cur.toList (o + i) v rest (by simp at hl ⊢; omega)
    simpa [Array.toList_setIfInBounds, Nat.add_assoc] using e
theorem grown_set (w : World) (g n c : Nat) (row : Array Value) : w.grownBy (w.setRow g row) (Value.ownBlock (.slice (some ⟨g, 0, none⟩) n c)) :=
  ⟨rfl, rfl, rfl, by simp, fun k _ hk => setRow_other w g k _ (fun e => hk (by simp [Value.ownBlock, e]))⟩
theorem bv_str (u : ByteArray) : Lib.strCells u = bv u.data.toList := rfl
/-- 'append(b, s...)' at such a row -/
theorem run_appM_str {w : World} {B : Nat} {v : Value} {l : List UInt8} (ty : TypeId) (h : OwnM w B v l) (u : ByteArray) (hlen : l.length + u.size ≤ 1099511627776) (hB : B ≤ w.heap.size) :
    ∃ v' w', (Builtin.append_ #[22, 9] ty #[v, .string u]).run Tryd.prog w = .ok v' w' ∧ OwnM w' B v' (l ++ u.data.toList) ∧ w.grownBy w' v.ownBlock := by
  obtain ⟨i, hi, hz, h1, h2⟩ := info_parts info_u8
  have hrd := h.read
  obtain ⟨g, cap, cur, fz, rfl, hb, hg, hfz, hnc, hcm, hcs, htake⟩ := h
  have hul : u.data.toList.length = u.size := (size_len u).symm
  have hcl : (Lib.strCells u).length = u.size := by rw [bv_str, bv_len, hul]
  have hbl : (bv l ++ bv u.data.toList).length = l.length + u.size := by rw [List.length_append, bv_len, bv_len, hul]
  by_cases hroom : l.length + u.size ≤ cap
  · have hf := Lib.run_firstCells_string (P := Tryd.prog) w 1 u
    have hst := storeM Tryd.prog g 5 fz (Lib.strCells u) l.length 0 cur w hg (by rw [hcs]; exact hfz) (by rw [hcl]; omega) (Lib.strCells_oneCell u)
    simp only [Nat.add_zero, hcl] at hst
    have hr : (Builtin.append_ #[22, 9] ty #[.slice (some ⟨g, 0, none⟩) l.length cap, .string u]).run Tryd.prog w = .ok (.slice (some ⟨g, 0, none⟩) (l.length + u.size) cap) (w.setRow g (cur.toList.take l.length ++ Lib.strCells u ++ cur.toList.drop (l.length + u.size)).toArray) := by
      simp [Builtin.append_, run_underlying Tryd.underlying22, run_underlying Tryd.underlying9, sizeOf, typeInfo, hi, h1, Builtin.lenOf, hroom, hf, Addr.add_lit, hst]
    refine ⟨_, _, hr, ⟨g, cap, _, fz, by rw [List.length_append, hul], hb, setRow_heap w g cur _ _ _ hg, hfz, by rw [List.length_append, hul]; exact hroom, hcm, ?_, ?_⟩, grown_set _ _ _ _ _⟩
    · simp only [List.size_toArray, List.length_append, List.length_take, List.length_drop, Array.length_toList, hcl]
      omega
    · rw [htake, bv_str, bv_app]
      show (bv l ++ bv u.data.toList ++ _).take _ = _
      rw [List.length_append, hul, ← hbl, List.take_left]
  · obtain ⟨g2, cap2, e2, _, hc2⟩ := hrd
    have holds : ∀ j x, (bv l)[j]? = some x → w.cell? ((⟨g, 0, none⟩ : Addr).add j) = some x := fun j x hx => by
      cases e2
      have hj : j < l.length := by have := (List.getElem?_eq_some_iff.1 hx).1; rw [bv_len] at this; exact this
      rw [addr0, hc2 j hj]
      simp [bv, List.getElem?_eq_getElem hj] at hx
      rw [← hx]
    have hr := Lib.run_append_grow_string (P := Tryd.prog) w 22 9 ty 5 i (.int .u8 0) Tryd.underlying22 Tryd.underlying9 hi hz ⟨g, 0, none⟩ l.length cap (bv l) (by rw [h1, bv_len, Nat.mul_one]) holds u (by omega) (by omega) (by rw [h2]; exact growslice_fits (by omega) (by omega))
    have hge := grownCap_ge w (l.length + u.size) cap 5
    have hcm2 := grownCap_le_maxLen w (l.length + u.size) cap 5 (by unfold maxLen; omega)
    refine ⟨_, _, hr, ⟨w.heap.size, _, _, (0, 0), by rw [List.length_append, hul], hB, heap_alloc_new w.drew _, .inl rfl, by rw [List.length_append, hul]; exact hge, hcm2, ?_, ?_⟩, ⟨rfl, rfl, rfl, by simp, fun k hk _ => Below.heap_alloc w.drew _ k hk⟩⟩
    · have hz1 : (Value.int IntKind.u8 0).cells.size = 1 := rfl
      simp only [Array.size_append, List.size_toArray, size_zeroCells, hz1, bv_len, hcl]
      omega
    · simp only [Array.toList_append, List.append_assoc, bv_str, bv_app]
      rw [← List.append_assoc, List.length_append, hul, ← hbl]
      exact List.take_left
/-- the row that '[]byte(s)' makes -/
theorem ownM_conv (w : World) (B : Nat) (u : ByteArray) (hB : B ≤ w.heap.size) (hu : u.size ≤ 1099511627776) :
    OwnM (Lib.bytesWorld w 5 u) B (.slice (some ⟨w.heap.size, 0, none⟩) u.size (grownCap w u.size 0 5)) u.data.toList := by
  have hge := grownCap_ge w u.size 0 5
  have hcm := grownCap_le_maxLen w u.size 0 5 (by unfold maxLen; omega)
  have hul : u.data.toList.length = u.size := (size_len u).symm
  have hsz : (Lib.bytesCells w 5 u).size = grownCap w u.size 0 5 := by
    have : u.data.size = u.size := rfl
    unfold Lib.bytesCells; rw [Array.size_append, Array.size_map, Array.size_replicate, this]; omega
  refine ⟨w.heap.size, _, _, _, by rw [hul], hB, Lib.bytesWorld_at_new w 5 u, .inr (by rw [hsz]; exact Nat.le_refl _), by rw [hul]; exact hge, hcm, hsz, ?_⟩
  unfold Lib.bytesCells
  rw [Array.toList_append, Array.toList_map, hul]
  have e : (List.map (fun b : UInt8 => Value.int .u8 (b.toNat : Int)) u.data.toList).length = u.size := by rw [List.length_map, hul]
  rw [← e, List.take_left]; rfl
theorem grown_conv (w : World) (u : ByteArray) (r : Option Nat) : w.grownBy (Lib.bytesWorld w 5 u) r :=
  ⟨rfl, rfl, rfl, by rw [Lib.bytesWorld_size]; omega, fun k hk _ => Lib.bytesWorld_at_old w 5 u k hk⟩
theorem below_conv {B : Nat} {a w : World} (u : ByteArray) (h : Below B a w) (hB : B ≤ w.heap.size) : Below B a (Lib.bytesWorld w 5 u) :=
  h.grown (grown_conv w u none) hB fun q hq => by cases hq
theorem run_conv (w : World) (u : ByteArray) : (convert 9 22 (.string u)).run Tryd.prog w = .ok (.slice (some ⟨w.heap.size, 0, none⟩) u.size (grownCap w u.size 0 5)) (Lib.bytesWorld w 5 u) :=
  Lib.run_convert_string_bytes w _ _ _ u Tryd.underlying9 Tryd.underlying22 Tryd.underlying5
/-- 'string(b)' of a part of a row -/
theorem conv_part {w : World} {g o n cap : Nat} {l : List UInt8} (hn : l.length = n) (h : ∀ j (hj : j < l.length), w.cell? ⟨g, o + j, none⟩ = some (.int .u8 (l[j].toNat : Int))) :
    (convert 22 9 (.slice (some ⟨g, o, none⟩) n cap)).run Tryd.prog w = .ok (.string (St l)) w := by
  subst hn
  refine run_convert_bytes_back w _ _ _ _ cap l Tryd.underlying22 Tryd.underlying5 Tryd.underlying9 fun j hj => ?_
  rw [addrO]; exact h j hj
/-- the append of a string at a step of a region that draws -/
theorem stepM_str {w0 : World} {ops : Array Oper} {o : Oper} {a : Act} {K : Act → World → Prop} {Q : Exit → Act → World → Prop} {E : Prop} (hgd : o.guard = none) (s x : Operand)
    (ho : o.op = .call { callee := .builtin .append, args := #[s, x], argTypes := #[22, 9] })
    (base : Nat) (v : Value) (l : List UInt8) (hs : a.eval s = v) (hown : OwnM w0 base v l) (u : ByteArray) (hx : a.eval x = .string u) (hlen : l.length + u.size ≤ 1099511627776) (hbase : base ≤ w0.heap.size)
    (h : ∀ v' w', OwnM w' base v' (l ++ u.data.toList) → w0.grownBy w' v.ownBlock → K (a.put o.dst v') w') :
    if Region.wanted o (yielded ops a.tmps) = true then Oper.wp Tryd.prog o a w0 K Q else E := by
  have hw : Region.wanted o (yielded ops a.tmps) = true := by simp [Region.wanted, hgd]
  rw [if_pos hw]
  obtain ⟨v', w', hr, h2, h3⟩ := run_appM_str o.type hown u hlen hbase
  unfold Oper.wp execOp
  simp only [ho, resolve, invoke, builtin, Sem.run_bind, Sem.run_pure, Result.andThen_ok, List.map_toArray, List.map_cons, List.map_nil, hs, hx, hr]
  exact h v' w' h2 h3
end Go.Proofs.YtlmciomoimfajaaDoor
