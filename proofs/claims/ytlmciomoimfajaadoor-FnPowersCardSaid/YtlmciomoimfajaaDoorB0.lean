/- Plain words for the walks: bytes, numbers and strings as lists of values, owned rows, small lemmas on lists. No condition, no function of the program. -/
import Derived.Test.YtlmciomoimfajaaDoorA1
import Derived.Lib.Strings
import Derived.Lib.Hide
namespace Go.Proofs.YtlmciomoimfajaaDoor
open Go.RowKit
set_option linter.unusedVariables false

/-- a list of bytes as a string -/
def St (l : List UInt8) : ByteArray := ⟨l.toArray⟩
theorem St_data (l : List UInt8) : (St l).data.toList = l := rfl
theorem St_size (l : List UInt8) : (St l).size = l.length := by simp [St, ByteArray.size]
theorem St_of (s : ByteArray) : St s.data.toList = s := Lib.mk_data s
theorem str_inj {a b : ByteArray} (h : a.data.toList = b.data.toList) : a = b := by rw [← St_of a, ← St_of b, h]
theorem size_len (s : ByteArray) : s.size = s.data.toList.length := Lib.size_eq s
theorem ret_str {a b : ByteArray} (h : a = b) : Ending.returned (.string a) = .returned (.string b) := by rw [h]

def bv (l : List UInt8) : List Value := l.map fun c => Value.int .u8 (c.toNat : Int)
def iv (l : List Int) : List Value := l.map (Value.int .i64)
def sv (l : List ByteArray) : List Value := l.map Value.string
theorem bv_len (l : List UInt8) : (bv l).length = l.length := by simp [bv]
theorem iv_len (l : List Int) : (iv l).length = l.length := by simp [iv]
theorem sv_len (l : List ByteArray) : (sv l).length = l.length := by simp [sv]
theorem bv_app (l r : List UInt8) : bv (l ++ r) = bv l ++ bv r := by simp [bv]
theorem iv_app (l r : List Int) : iv (l ++ r) = iv l ++ iv r := by simp [iv]
theorem sv_app (l r : List ByteArray) : sv (l ++ r) = sv l ++ sv r := by simp [sv]

theorem byte_at (s : ByteArray) (k : Nat) (hk : k < s.size) (h' : k < s.data.toList.length) : s.data.toList[k] = s[k] := rfl
theorem take_snoc (s : ByteArray) (k : Nat) (h : k < s.size) : s.data.toList.take (k + 1) = s.data.toList.take k ++ [s[k]] := by
  rw [List.take_succ_eq_append_getElem (by simpa using h)]; rfl
theorem drop_cons (s : ByteArray) (k : Nat) (h : k < s.size) : s.data.toList.drop k = s[k] :: s.data.toList.drop (k + 1) := by
  rw [List.drop_eq_getElem_cons (by simpa using h)]; rfl
theorem ext_data (s : ByteArray) (i j : Nat) : (s.extract i j).data.toList = (s.data.toList.drop i).take (j - i) := Lib.extract_data s i j
theorem ext_size (s : ByteArray) (i j : Nat) (h : j ≤ s.size) (hij : i ≤ j) : (s.extract i j).size = j - i := by
  rw [size_len, ext_data, List.length_take, List.length_drop, ← size_len]; omega

theorem info_u8 : (Tryd.prog.info? 5).map (fun i => (i.zero, i.size, i.bytes)) = some (some (.int .u8 0), 1, 1) := by kernel_rfl
theorem info_int : (Tryd.prog.info? 3).map (fun i => (i.zero, i.size, i.bytes)) = some (some (.int .i64 0), 1, 8) := by kernel_rfl
theorem info_str : (Tryd.prog.info? 9).map (fun i => (i.zero, i.size, i.bytes)) = some (some (.string ByteArray.empty), 1, 16) := by kernel_rfl

/-- a slice of bytes that the call owns -/
def OwnB (w : World) (B : Nat) (v : Value) (l : List UInt8) : Prop := w.ownsRow B 5 1 v l.length (bv l)
def OwnI (w : World) (B : Nat) (v : Value) (l : List Int) : Prop := w.ownsRow B 3 1 v l.length (iv l)
def OwnS (w : World) (B : Nat) (v : Value) (l : List ByteArray) : Prop := w.ownsRow B 9 1 v l.length (sv l)

theorem one_new (w : World) (x : Value) (t : TypeId) : ∀ j u, ([x] : List Value)[j]? = some u → (w.alloc (.cells #[x] t)).cell? ((⟨w.heap.size, 0, none⟩ : Addr).add j) = some u := cell_one_new _ _ _

/-- 'string(out)' of a row that the call owns -/
theorem conv_own {w : World} {B : Nat} {v : Value} {l : List UInt8} (h : OwnB w B v l) :
    (convert 22 9 v).run Tryd.prog w = .ok (.string (St l)) w := by
  rcases h.2 with ⟨rfl, h0⟩ | ⟨g, cap, cur, rfl, hb, hg, hnc, hcm, hcs, htake⟩
  · have : l = [] := List.eq_nil_of_length_eq_zero h0
    subst this
    exact run_convert_bytes_nil w _ _ Tryd.underlying22 Tryd.underlying5 _ _ _ Tryd.underlying9
  · refine run_convert_bytes_back w _ _ _ _ cap l Tryd.underlying22 Tryd.underlying5 Tryd.underlying9 fun j hj => ?_
    have hc := World.ownsRow.cellAt (h : w.ownsRow B 5 1 _ _ _) j (by omega)
    have hplain : (⟨g, 0, none⟩ : Addr).add j = ⟨g, j, none⟩ := by unfold Addr.add; split <;> simp_all
    rw [hplain, hc]
    simp [bv, List.getElem?_eq_getElem hj]

/-- the same behind reads and draws -/
theorem ownB_nil (w : World) (B : Nat) : OwnB w B (.slice none 0 0) [] := World.ownsRow_nil _ _ _ _
theorem ownB_empty {B : Nat} (w : World) (hb : B ≤ w.heap.size) : OwnB (w.alloc (.cells #[] 5)) B (.slice (some ⟨w.heap.size, 0, none⟩) 0 0) [] :=
  World.ownsRow_made w #[] 0 hb (Nat.zero_le _) rfl
theorem ownI_empty {B : Nat} (w : World) (hb : B ≤ w.heap.size) : OwnI (w.alloc (.cells #[] 3)) B (.slice (some ⟨w.heap.size, 0, none⟩) 0 0) [] :=
  World.ownsRow_made w #[] 0 hb (Nat.zero_le _) rfl
theorem ownS_empty {B : Nat} (w : World) (hb : B ≤ w.heap.size) : OwnS (w.alloc (.cells #[] 9)) B (.slice (some ⟨w.heap.size, 0, none⟩) 0 0) [] :=
  World.ownsRow_made w #[] 0 hb (Nat.zero_le _) rfl

/-- a world that grew behind a new block grew -/
theorem grown_alloc {w w' : World} {o : Obj} {row : Option Nat} (h : (w.alloc o).grownBy w' row) : w.grownBy w' row :=
  ⟨h.os, h.tape, h.output, Nat.le_trans (by simp) h.size, fun k hk hne => (h.block k (by simp; omega) hne).trans (Below.heap_alloc w o k hk)⟩

/-- 'out = append(out, y)' of one element of one cell, to a row that the call owns -/
theorem append1 {P : Program} {w0 : World} {ops : Array Oper} {rest : List Oper} {o : Oper} {a : Act} {Q : Exit → Act → World → Prop} (hgd : o.guard = none) (s x : Operand) (t e : TypeId)
    (ho : o.op = .call { callee := .builtin .append, args := #[s, x], argTypes := #[t, t] })
    (z : Value) (bytes : Nat) (hinfo : (P.info? e).map (fun i => (i.zero, i.size, i.bytes)) = some (some z, 1, bytes)) (ht : P.underlying t = some (.slice e)) (hzs : z.cells.size = 1)
    (base : Nat) (v : Value) (xs : List Value) (hs : a.eval s = v) (hown : w0.ownsRow base e 1 v xs.length xs) (y : Value) (hy : y.oneCell' = true)
    (hx : a.eval x = .slice (some ⟨w0.heap.size, 0, none⟩) 1 1) (h63 : xs.length + 1 ≤ maxLen) (hbytes : (xs.length + 1) * bytes ≤ 140737488355328) (hbase : base ≤ w0.heap.size)
    (h : ∀ v' w', w'.ownsRow base e 1 v' (xs ++ [y]).length (xs ++ [y]) → w0.grownBy w' v.ownBlock → wpList P ops Q rest (a.put o.dst v') w') :
    wpList P ops Q (o :: rest) a (w0.alloc (.cells #[y] e)) := by
  obtain ⟨i, hi, hz, h1, h2⟩ := info_parts hinfo
  refine wpList_append_own _ hgd s x t ho base e i z 1 bytes ht hi hz h1 h2 hzs (by decide) v xs.length xs hs (hown.alloc _) ⟨w0.heap.size, 0, none⟩ 1 1 [y] hx rfl (one_new w0 y e) (fun u hu => by simp at hu; subst hu; exact hy) h63 hbytes (by simp; omega) ?_
  intro v' w' ho' hg' _
  exact h v' w' (by simpa using ho') (grown_alloc hg')

theorem appB {w0 : World} {ops : Array Oper} {rest : List Oper} {o : Oper} {a : Act} {Q : Exit → Act → World → Prop} (hgd : o.guard = none) (s x : Operand)
    (ho : o.op = .call { callee := .builtin .append, args := #[s, x], argTypes := #[22, 22] })
    (base : Nat) (v : Value) (l : List UInt8) (hs : a.eval s = v) (hown : OwnB w0 base v l) (y : UInt8) (yv : Int) (hyv : yv = (y.toNat : Int))
    (hx : a.eval x = .slice (some ⟨w0.heap.size, 0, none⟩) 1 1) (hlen : l.length ≤ 1099511627776) (hbase : base ≤ w0.heap.size)
    (h : ∀ v' w', OwnB w' base v' (l ++ [y]) → w0.grownBy w' v.ownBlock → wpList Tryd.prog ops Q rest (a.put o.dst v') w') :
    wpList Tryd.prog ops Q (o :: rest) a (w0.alloc (.cells #[.int .u8 yv] 5)) := by
  subst hyv
  have e : bv l ++ [.int .u8 (y.toNat : Int)] = bv (l ++ [y]) := by simp [bv]
  refine append1 hgd s x 22 5 ho _ 1 info_u8 Tryd.underlying22 rfl base v (bv l) hs (by rw [bv_len]; exact hown) _ rfl hx (by rw [bv_len]; unfold maxLen; omega) (by rw [bv_len]; omega) hbase ?_
  intro v' w' ho' hg'
  rw [e, bv_len] at ho'
  exact h v' w' ho' hg'

theorem appS {w0 : World} {ops : Array Oper} {rest : List Oper} {o : Oper} {a : Act} {Q : Exit → Act → World → Prop} (hgd : o.guard = none) (s x : Operand)
    (ho : o.op = .call { callee := .builtin .append, args := #[s, x], argTypes := #[24, 24] })
    (base : Nat) (v : Value) (l : List ByteArray) (hs : a.eval s = v) (hown : OwnS w0 base v l) (y : ByteArray)
    (hx : a.eval x = .slice (some ⟨w0.heap.size, 0, none⟩) 1 1) (hlen : l.length ≤ 1099511627776) (hbase : base ≤ w0.heap.size)
    (h : ∀ v' w', OwnS w' base v' (l ++ [y]) → w0.grownBy w' v.ownBlock → wpList Tryd.prog ops Q rest (a.put o.dst v') w') :
    wpList Tryd.prog ops Q (o :: rest) a (w0.alloc (.cells #[.string y] 9)) := by
  have e : sv l ++ [.string y] = sv (l ++ [y]) := by simp [sv]
  refine append1 hgd s x 24 9 ho _ 16 info_str Tryd.underlying24 rfl base v (sv l) hs (by rw [sv_len]; exact hown) _ rfl hx (by rw [sv_len]; unfold maxLen; omega) (by rw [sv_len]; omega) hbase ?_
  intro v' w' ho' hg'
  rw [e, sv_len] at ho'
  exact h v' w' ho' hg'

/-- what a row's growth leaves below the base -/
theorem below_app {B : Nat} {a w w' : World} {v : Value} {e : TypeId} {n : Nat} {xs : List Value} (hb : Below B a w) (hown : w.ownsRow B e 1 v n xs) (hg : w.grownBy w' v.ownBlock) (hB : B ≤ w.heap.size) : Below B a w' :=
  hb.grown hg hB fun q hq => (hown.lt q hq).1
end Go.Proofs.YtlmciomoimfajaaDoor
