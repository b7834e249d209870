/- Contract of toIntS of the laws (a copy of a row of numbers), and the walk of the law FnExactFractionOf. Conditions: the row can be read. -/
import Derived.Test.YtlmciomoimfajaaK4
import Derived.Test.YtlmciomoimfajaaV3
import Derived.OwnWalk
namespace Go.Proofs.Ytlmciomoimfajaa
open Go.RowKit
set_option linter.unusedVariables false

def cpL (l : List Int) (k : Nat) : List Int := l.take k ++ List.replicate (l.length - k) 0
theorem cpL_len (l : List Int) (k : Nat) (h : k ≤ l.length) : (cpL l k).length = l.length := by simp [cpL]; omega
theorem cpL_end (l : List Int) : cpL l l.length = l := by simp [cpL]
theorem cpL_set {l : List Int} {k : Nat} {x : Int} (h : l[k]? = some x) : (cpL l k).set k x = cpL l (k + 1) := by
  have hk := (List.getElem?_eq_some_iff.1 h).1
  unfold cpL
  rw [List.set_append_right _ _ (by rw [List.length_take]; omega), List.length_take, show k - min k l.length = 0 by omega, show l.length - k = (l.length - (k + 1)) + 1 by omega, List.replicate_succ, List.set_cons_zero, List.take_succ_eq_append_getElem hk, (List.getElem?_eq_some_iff.1 h).2]
  simp
theorem isRow_get {w : World} {a : Option Addr} {len cap : Nat} {zs : List Int} (h : IsRow .i64 w a len cap zs) {i : Nat} (hi : i < len) : ∃ x z, a = some x ∧ len ≤ cap ∧ (zs.take len)[i]? = some z ∧ w.cell? (x.add i) = some (.int .i64 z) ∧ (x.add i).block < w.heap.size := by
  rcases h with ⟨_, h, _⟩ | ⟨x, h1, h2, h3, h4, h5, h6⟩
  · omega
  · have hc := h5 i (by omega)
    refine ⟨x, zs.getD i 0, h1, h2, ?_, hc, World.block_lt_of_cell? w _ hc⟩
    rw [List.getElem?_take, if_pos hi, List.getD_eq_getElem?_getD, List.getElem?_eq_getElem (by omega)]; rfl
theorem isRow_len {w : World} {a : Option Addr} {len cap : Nat} {zs : List Int} (h : IsRow .i64 w a len cap zs) : (zs.take len).length = len := by
  rcases h with ⟨_, h0, _, h1⟩ | ⟨x, h1, h2, h3, h4, h5, h6⟩
  · rw [h0]; simp
  · rw [List.length_take]; omega

set_option maxHeartbeats 2000000 in
theorem toIntS_c (a : Option Addr) (len cap : Nat) (zs : List Int) (w : World) (h : IsRow .i64 w a len cap zs) (hl : len ≤ 1048576) :
    Calls Try.prog 39 #[.slice a len cap] w (RetI (zs.take len) w) := by
  have HR := Lib.hid (fun i (hi : i < len) => isRow_get h hi)
  have hll := isRow_len h
  obtain ⟨l, hL⟩ : ∃ l, l = zs.take len := ⟨_, rfl⟩
  rw [← hL] at hll ⊢
  have HL := Lib.hid hL
  obtain ⟨i, hi, hz, hi1, hi2⟩ := info_parts info_int
  have INFO := Lib.hid hi
  have HZ := Lib.hid hz
  have HI1 := Lib.hid hi1
  have HI2 := Lib.hid hi2
  have HLL := Lib.hid hll
  clear h hL hi hz hi1 hi2 hll
  go_enter Try.func39, Try.ntmps39
  go_wp2_with (at_make; refine wpList_make_full _ rfl _ _ _ rfl w.heap.size 3 i _ 1 Try.underlying24 INFO.out HZ.out HI1.out .i64 .i64 _ _ len rfl rfl rfl rfl (by rw [HI2.out]; omega) (by unfold maxLen; omega) (Nat.le_refl _) ?_; intro w1 hown1 hg1)
  have hbo : w1.ownsRow w.heap.size 3 1 (.slice (some ⟨w.heap.size, 0, none⟩) len len) len (iv (cpL l 0)) := by
    have e : (madeCells (Value.int .i64 0).cells (len * 1)).toList = iv (cpL l 0) := by
      apply List.ext_getElem?
      intro j
      by_cases h : j < len
      · simp [madeCells, Value.cells, h, Nat.mod_one, cpL, iv, HLL.out]
      · rw [List.getElem?_eq_none (by rw [Array.length_toList, size_madeCells]; omega), List.getElem?_eq_none (by rw [iv_len, cpL_len l 0 (by omega), HLL.out]; omega)]
    rw [← e]; exact hown1
  have HBO := Lib.hid hbo
  have hB1 : Below w.heap.size w w1 := (Below.refl w.heap.size w).grown hg1 (Nat.le_refl _) (fun k hk => (by cases hk))
  have hS1 : w.heap.size < w1.heap.size := (World.ownsRow.lt (h := hbo) w.heap.size rfl).2
  obtain ⟨G, hG⟩ : ∃ G, G = w.heap.size := ⟨_, rfl⟩
  have HB1 := Lib.hid hB1
  rw [← hG] at HBO HB1 hS1 ⊢
  have HG := Lib.hid hG
  clear hbo hown1 hg1 INFO HZ HI1 HI2 hG hB1
  go_loopw [4] (fun z wr => ∃ k : Nat, k ≤ len ∧ z = .int .i64 k ∧ Hid (wr.ownsRow G 3 1 (.slice (some ⟨G, 0, none⟩) len len) len (iv (cpL l k))) ∧ Hid (Below G w wr) ∧ G < wr.heap.size) (fun z _ => len - (intOf z).toNat)
  case atStart => exact ⟨0, by omega, rfl, HBO, HB1, hS1⟩
  case round =>
    obtain ⟨k, hk, rfl, ho, hbw, hgs⟩ := hrel
    by_cases hlk : k < len
    · obtain ⟨ad, z, rfl, hcap, hz, hc, hbl⟩ := HR.out k hlk
      have cx : wr.cell? (ad.add k) = some (.int .i64 z) := by rw [hbw.out.cell (by rw [HG.out]; exact hbl)]; exact hc
      have hst := ho.out.stored k (.int .i64 z)
      have hset : (iv (cpL l k)).set k (.int .i64 z) = iv (cpL l (k + 1)) := by
        rw [← cpL_set (by rw [HL.out]; exact hz)]; simp [iv, List.map_set]
      rw [hset] at hst
      have HST := Lib.hid hst
      have hlt : k < (iv (cpL l k)).length := by rw [iv_len, cpL_len l k (by rw [HLL.out]; omega), HLL.out]; exact hlk
      obtain ⟨yy, cy⟩ : ∃ y, wr.cell? ⟨G, k, none⟩ = some y := ⟨_, (ho.out.cellAt k (by omega)).trans (List.getElem?_eq_getElem hlt)⟩
      have fy := ho.out.frozenAt k
      have b1 : (k : Int) < (len : Int) := by omega
      have HNB : Hid (Below G w (wr.setCell ⟨G, k, none⟩ (.int .i64 z))) := hbw.out.grown hst.2 (by omega) (fun j hj => (by cases hj; exact Nat.le_refl _))
      have hgs2 := Nat.lt_of_lt_of_le hgs hst.2.size
      clear hst hset hz hc hbl hlt
      go_wp2
      go_roundw
      case rel => exact ⟨k + 1, by omega, by go_num, HST.out.1, HNB, hgs2⟩
      case measure => simp [intOf] <;> omega
    · obtain rfl : k = len := by omega
      have hfin : Hid (OwnI wr w.heap.size (.slice (some ⟨G, 0, none⟩) k k) l) := by
        have := ho.out
        have e : cpL l k = l := by have h2 := HLL.out; rw [← h2]; exact cpL_end l
        rw [e, HG.out] at this
        unfold OwnI; rw [HLL.out, HG.out]; exact this
      have hbf : Hid (Below w.heap.size w wr) := by have := hbw.out; rw [HG.out] at this; exact this
      go_wp2
      go_ret
      exact ⟨_, rfl, hfin.out, hbf.out⟩

set_option maxHeartbeats 2000000 in
theorem lawFractionOf_w (a0 : Option Addr) (len0 cap0 : Nat) (z0 : List Int) (w : World) (w0 : IsRow .i64 w a0 len0 cap0 z0) :
    Calls Try.prog 5 #[.slice a0 len0 cap0] w fun e w' => e = .returned (.bool true) ∧ Below w.heap.size w w' := by
  by_cases hbig : 1048576 < len0
  · have hd : decide ((1048576 : Int) < (len0 : Int)) = true := decide_eq_true (by omega)
    go_enter Try.func5, Try.ntmps5
    go_wp2
    go_ret
    exact ⟨rfl, Below.refl _ _⟩
  · have hd : decide ((1048576 : Int) < (len0 : Int)) = false := decide_eq_false (by omega)
    have hT := fun W (hW : IsRow .i64 W a0 len0 cap0 z0) => Lib.hid (toIntS_c a0 len0 cap0 z0 W hW (by omega))
    have hll := isRow_len w0
    obtain ⟨l, hL⟩ : ∃ l, l = z0.take len0 := ⟨_, rfl⟩
    rw [← hL] at hT hll
    have hlb : l.length ≤ 1048576 := by omega
    have HLB := Lib.hid hlb
    have hdec : decide (l = l) = true := decide_eq_true rfl
    have c1 := hT w w0
    have HW := Lib.hid w0
    have hx1 : ((frP l).1 != (frP l).1) = false := by simp
    have hx2 : ((frP l).2 != (frP l).2) = false := by simp
    have hx3 : (frB l != frB l) = false := by simp
    obtain ⟨P1, hP1⟩ : ∃ P1, P1 = (frP l).1 := ⟨_, rfl⟩
    obtain ⟨P2, hP2⟩ : ∃ P2, P2 = (frP l).2 := ⟨_, rfl⟩
    obtain ⟨b, hb⟩ : ∃ b, b = frB l := ⟨_, rfl⟩
    have hS := fun v W (h : RdI W v l) => Lib.hid (fractionOf_s v l W h HLB.out)
    have hI := fun v W (h : RdI W v l) => Lib.hid (fractionOf_i v l W h HLB.out)
    rw [← hP1, ← hP2, ← hb] at hS hI
    rw [← hP1] at hx1
    rw [← hP2] at hx2
    rw [← hb] at hx3
    clear hL hll hbig w0 hP1 hP2 hb hlb
    go_enter Try.func5, Try.ntmps5
    go_wp2_with fail
    refine c1.out.mono ?_
    rintro e w1 ⟨v1, rfl, o1, b1⟩
    have c2 := hS v1 w1 o1.rd
    have HW1 := Lib.hid (HW.out.keep b1)
    clear o1
    go_wp2_with fail
    refine c2.out.mono ?_
    rintro e w1' ⟨rfl, rfl⟩
    have c3 := hT w1 HW1.out
    go_wp2_with fail
    refine c3.out.mono ?_
    rintro e w2 ⟨v2, rfl, o2, b2⟩
    have HO2 := Lib.hid o2
    have HW2 := Lib.hid (HW1.out.keep b2)
    have HB2 := Lib.hid (b1.trans (b2.mono b1.size))
    have c4 := hI v2 w2 o2.rd
    clear o2
    go_wp2_with fail
    refine c4.out.mono ?_
    rintro e w3 ⟨rfl, b3⟩
    have HO3 := Lib.hid (own_below HO2.out b3)
    have HW3 := Lib.hid (HW2.out.keep b3)
    have HB3 := Lib.hid (HB2.out.trans (b3.mono HB2.out.size))
    have c5 := hT w3 HW3.out
    cases b
    all_goals
      go_wp2_with fail
      refine c5.out.mono ?_
      rintro e w4 ⟨v4, rfl, o4, b4⟩
      have HO4 := Lib.hid (own_below HO3.out b4)
      have HB4 := Lib.hid (HB3.out.trans (b4.mono HB3.out.size))
      have c6 := Lib.hid (eqIntS_c v2 v4 l l w4 (OwnI.rd HO4.out) (OwnI.rd o4) (by have := HLB.out; omega) (by have := HLB.out; omega))
      clear o4
      go_wp2_with fail
      refine c6.out.mono ?_
      rintro e w5 ⟨rfl, d, rfl⟩
      go_wp2_with fail
      go_ret
      exact ⟨rfl, below_drewN HB4.out _⟩
end Go.Proofs.Ytlmciomoimfajaa
