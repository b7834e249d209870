/- Contract of the laws' MakeGrowing: a substitution for which a is growing. Conditions: the code's bytes can be read. -/
import Derived.Test.YtlmciomoimfajaaX15
import Derived.Deep.RegionHeld
import Derived.Deep.DeepFit
namespace Go.Proofs.Ytlmciomoimfajaa
open Go.RowKit
set_option linter.unusedVariables false

theorem own_shapeN {w : World} {B n : Nat} {v : Value} {L : List ByteArray} (h : OwnS w B v ([] ++ L)) (hn : L.length = n) (h1 : 1 ≤ n) : ∃ q cap, v = .slice (some ⟨q, 0, none⟩) n cap ∧ OwnS w B (.slice (some ⟨q, 0, none⟩) n cap) L := by
  rw [List.nil_append] at h
  obtain ⟨q, cap, e⟩ := own_shapeS h (by intro e; rw [e] at hn; simp at hn; omega)
  rw [hn] at e
  exact ⟨q, cap, e, by rw [← e]; exact h⟩
theorem own_frozen {w : World} {B : Nat} {q n cap : Nat} {L : List ByteArray} (h : OwnS w B (.slice (some ⟨q, 0, none⟩) n cap) L) (j : Nat) : w.frozen? ⟨q, j, none⟩ = false := by
  rcases h.2 with ⟨h0, _⟩ | ⟨g, c2, cur, hv, hb, hg, _⟩
  · cases h0
  · cases hv
    unfold World.frozen?
    rw [hg]
    simp
/-- the images with 'a' ahead of the beginning of the first -/
def grS (L : List ByteArray) (x0 : ByteArray) : List ByteArray := ((⟨#[97]⟩ : ByteArray) ++ x0.extract 0 (min x0.size 7)) :: L.tail
theorem grS_ok {L : List ByteArray} (h : OkL L) {x0 : ByteArray} (h0 : L[0]? = some x0) : GrL (grS L x0) ∧ (grS L x0).length = L.length := by
  cases L with
  | nil => simp at h0
  | cons y r =>
    obtain rfl : y = x0 := by simpa using h0
    have hlen : (grS (y :: r) y).length = (y :: r).length := by simp [grS]
    have hs := h.sz y (by simp)
    have hd : ((⟨#[97]⟩ : ByteArray) ++ y.extract 0 (min y.size 7)).data.toList = 97 :: y.data.toList.take (min y.size 7) := by
      simp
    have hz : ((⟨#[97]⟩ : ByteArray) ++ y.extract 0 (min y.size 7)).size = 1 + min y.size 7 := by
      rw [size_len, hd, List.length_cons, List.length_take, ← size_len]; omega
    refine ⟨⟨⟨by rw [hlen]; exact h.one, by rw [hlen]; exact h.four, fun x hx => ?_, fun x hx c hc => ?_⟩, ⟨y.data.toList.take (min y.size 7), ?_, ?_⟩⟩, hlen⟩
    · rcases List.mem_cons.1 hx with rfl | hx
      · rw [hz]; omega
      · exact h.sz x (List.mem_cons_of_mem _ hx)
    · unfold inL
      rw [hlen]
      rcases List.mem_cons.1 hx with rfl | hx
      · rw [hd] at hc
        rcases List.mem_cons.1 hc with rfl | hc
        · have := h.one; show 97 ≤ 97 ∧ 97 < 97 + _; omega
        · exact h.let_ y (by simp) c (List.mem_of_mem_take hc)
      · exact h.let_ x (List.mem_cons_of_mem _ hx) c hc
    · show ((grS (y :: r) y).getD (97 - 97) ⟨#[]⟩).data.toList = _
      exact hd
    · rw [List.length_take, ← size_len]; omega

set_option maxRecDepth 20000 in
set_option maxHeartbeats 4000000 in
theorem makeGrowing_c (a : Option Addr) (len cap : Nat) (zs : List Int) (w : World) (h : IsRow .u8 w a len cap zs) (hl : len ≤ 1048576) :
    Calls Try.prog 69 #[.slice a len cap, .int .i64 0] w fun e w' => ∃ ga c L, e = .returned (sbV ga L.length c) ∧ RdSub w' ga L.length c L ∧ GrL L ∧ Below w.heap.size w w' := by
  obtain ⟨wz, hwz⟩ : ∃ wz, wz = w.alloc (.cells #[.slice none 0 0] 67) := ⟨_, rfl⟩
  have hsz : wz.heap.size = w.heap.size + 1 := by rw [hwz]; simp
  have hbz : Hid (Below w.heap.size w wz) := by rw [hwz]; exact (Below.refl _ _).alloc (Nat.le_refl _) _
  have hhz : Hid (wz.heap[w.heap.size]? = some (.cells #[.slice none 0 0] 67 (0, 0))) := by rw [hwz]; exact heap_alloc_new w _
  have hN := Lib.hid (l31New_c a len cap zs 0 wz (h.keep hbz.out) hl (by omega))
  have HWZ := Lib.hid hwz
  have HSZ := Lib.hid hsz
  clear hwz h hsz
  go_enter Try.func69, Try.ntmps69
  go_wp2_with fail
  rw [← HWZ.out]
  refine hN.out.mono ?_
  rintro e w1 ⟨rfl, hc1, hb1⟩
  have hD := Lib.hid (l03Draw_c _ _ a len cap zs w1 hc1 hl)
  have hs1 := hb1.size
  have HB1 := Lib.hid hb1
  clear hc1 hb1
  go_wp2_with fail
  refine hD.out.mono ?_
  rintro e w2 ⟨ga, c, L, rfl, ho, hok, hb2⟩
  have hs2 := hb2.size
  have hsz := HSZ.out
  have HB2 : Hid (Below w.heap.size w w2) := hbz.out.trans ((HB1.out.trans hb2).mono (by omega))
  have HH2 : Hid (w2.heap[w.heap.size]? = some (.cells #[.slice none 0 0] 67 (0, 0))) := by
    rw [hb2.block _ (by omega), HB1.out.block _ (by omega)]; exact hhz.out
  have hrd : RdSub w2 ga L.length c L := ⟨rfl, ho.rd⟩
  obtain ⟨x0, hx0⟩ : ∃ x0, L[0]? = some x0 := ⟨L[0]'(by have := hok.one; omega), List.getElem?_eq_getElem _⟩
  obtain ⟨gl, rfl, hnc, hc0⟩ := hrd.get hx0
  have hcells : Hid (∀ (j : Nat) y, L[j]? = some y → w2.cell? ⟨gl, j, none⟩ = some (.string y)) := fun j y hy => by
    obtain ⟨g2, e2, _, h2⟩ := hrd.get hy
    cases e2; exact h2
  have hgl : gl < w2.heap.size := World.block_lt_of_cell? w2 _ hc0
  have hL1 := hok.one
  have hL4 := hok.four
  have hx8 := (hok.sz x0 (List.mem_of_getElem? hx0)).2
  have hx1 := (hok.sz x0 (List.mem_of_getElem? hx0)).1
  have HOK := Lib.hid hok
  have HX0 := Lib.hid hx0
  obtain ⟨n, hn⟩ : ∃ n, n = L.length := ⟨_, rfl⟩
  have HN : Hid (L.length = n) := hn.symm
  unfold sbV
  rw [← hn] at hL1 hL4 hnc ⊢
  clear ho hok hb2 hrd hc0 hx0 hn
  have hwe : ∃ we : World, we = (w2.alloc (.cells #[.slice (some ⟨gl, 0, none⟩) n c] 67)).alloc (.cells #[] 9) := ⟨_, rfl⟩
  obtain ⟨we, hwe⟩ := hwe
  have hsw : we.heap.size = w2.heap.size + 2 := by rw [hwe]; simp
  have hoe : Hid (OwnS we (w2.heap.size + 1) (.slice (some ⟨w2.heap.size + 1, 0, none⟩) 0 0) []) := by
    rw [hwe]
    have := ownS_empty (B := w2.heap.size + 1) (w2.alloc (.cells #[.slice (some ⟨gl, 0, none⟩) n c] 67)) (by simp)
    unfold Hid
    simpa using this
  have hne : Hid (∀ (j : Nat) y, L[j]? = some y → we.cell? ⟨gl, 0 + j, none⟩ = some (.string y)) := fun j y hy => by
    rw [hwe, Nat.zero_add, ← hcells.out j y hy]
    unfold World.cell?
    rw [Below.heap_alloc _ _ _ (by simp; omega), Below.heap_alloc _ _ _ hgl]
  have hbe : Hid (we.heap[w2.heap.size]? = some (.cells #[.slice (some ⟨gl, 0, none⟩) n c] 67 (0, 0)) ∧ we.heap[w.heap.size]? = some (.cells #[.slice none 0 0] 67 (0, 0)) ∧ Below w.heap.size w we) := by
    rw [hwe]
    refine ⟨?_, ?_, (HB2.out.alloc (by omega) _).alloc (by simp; omega) _⟩
    · rw [Below.heap_alloc _ _ _ (by simp)]; exact heap_alloc_new w2 _
    · rw [Below.heap_alloc _ _ _ (by simp; omega), Below.heap_alloc _ _ _ (by omega)]; exact HH2.out
  have HSW := Lib.hid hsw
  subst hwe
  clear hsw hsz
  go_upto_region 2 with fail
  go_wp2_with (at_builtin; refine un_hid ?_)
  refine Lib.hid ?_
  refine appLS rfl _ _ rfl (w2.heap.size + 1) _ [] rfl hoe.out gl 0 n c L rfl HN.out hne.out (by simp; omega) (by have := HSW.out; omega) ?_
  intro v3 w3 ho3 hg3
  obtain ⟨q, cp, rfl, ho4⟩ := own_shapeN ho3 HN.out hL1
  have hb5 : Hid (w3.heap[w2.heap.size]? = some (.cells #[.slice (some ⟨gl, 0, none⟩) n c] 67 (0, 0))) := (by unfold Hid; rw [hg3.block _ (by have := HSW.out; omega) (fun e => by have e2 : w2.heap.size = w2.heap.size + 1 := Option.some.inj e; omega)]; exact hbe.out.1)
  obtain ⟨p1, p2⟩ := heap_cell hb5.out
  have hq : w2.heap.size + 1 ≤ q := (World.ownsRow.lt ho4 q rfl).1
  have hrow : Hid (∀ (j : Nat) y, L[j]? = some y → w3.cell? ⟨q, j, none⟩ = some (.string y)) := fun j y hy => by
    rcases ho4.rd with ⟨h0, _⟩ | ⟨g2, c2, hv, _, hcc⟩
    · cases h0
    · cases hv; exact hcc j y hy
  have hcp : n ≤ cp := by
    rcases ho4.2 with ⟨h0, _⟩ | ⟨g2, c2, cur, hv, _, _, h5, _⟩
    · cases h0
    · cases hv; rw [HN.out] at h5; exact h5
  obtain ⟨w4, hw4⟩ : ∃ w4, w4 = w3.setCell ⟨w2.heap.size, 0, none⟩ (.slice (some ⟨q, 0, none⟩) n cp) := ⟨_, rfl⟩
  have p5 : w4.cell? ⟨w2.heap.size, 0, none⟩ = some (.slice (some ⟨q, 0, none⟩) n cp) := by rw [hw4]; exact World.cell?_setCell_same w3 ⟨w2.heap.size, 0, none⟩ _ p1
  have hfar : Hid (∀ j, w4.cell? ⟨q, j, none⟩ = w3.cell? ⟨q, j, none⟩) := fun j => by rw [hw4]; exact World.cell?_setCell_far _ _ _ _ (show w2.heap.size ≠ q by omega)
  have p6 : w4.cell? ⟨q, 0, none⟩ = some (.string x0) := by rw [hfar.out]; exact hrow.out 0 x0 HX0.out
  have p7 : w4.frozen? ⟨q, 0, none⟩ = false := by rw [hw4, World.frozen?_setCell]; exact own_frozen ho4 0
  have hq3 : q < w3.heap.size := (World.ownsRow.lt ho4 q rfl).2
  have hs4 : w4.heap.size = w3.heap.size := by rw [hw4]; simp [World.setCell]
  have hr4 : Hid (w4.heap[w.heap.size]? = some (.cells #[.slice none 0 0] 67 (0, 0)) ∧ Below w.heap.size w w4) := by
    have hsz := HSZ.out
    have hsw := HSW.out
    have h3 : Below w.heap.size w w3 := hbe.out.2.2.grown hg3 (by omega) (fun q2 e => by have e2 : w2.heap.size + 1 = q2 := Option.some.inj e; omega)
    refine ⟨?_, by rw [hw4]; exact h3.setCell (p := ⟨w2.heap.size, 0, none⟩) (show w.heap.size ≤ w2.heap.size by omega) _⟩
    rw [hw4, Below.heap_setCell w3 ⟨w2.heap.size, 0, none⟩ _ w.heap.size (show w.heap.size ≠ w2.heap.size by omega), hg3.block _ (by omega) (fun e => by have e2 : w.heap.size = w2.heap.size + 1 := Option.some.inj e; omega)]
    exact hbe.out.2.1
  have HW4 := Lib.hid hw4
  have HS4 := Lib.hid hs4
  rw [hw4] at p5 p6 p7
  have m1 : x0.size ≤ 8 := hx8
  clear ho3 hg3 ho4 hw4 hs4
  go_wp2_with fail
  rw [← HW4.out]
  rw [← HW4.out] at p5 p6 p7
  obtain ⟨k, hk⟩ : ∃ k, k = min x0.size 7 := ⟨_, rfl⟩
  have f1 : min (x0.size : Int) 7 = (k : Int) := by omega
  have f2 : (k : Int) ≤ (x0.size : Int) := by omega
  have f3 : k ≤ x0.size := by omega
  have f5 : 0 < n := by omega
  have f6 : 0 < (n : Int) := by omega
  have f7 : decide (0 < n) = true := decide_eq_true (by omega)
  have f4 : ¬ 9223372036854775807 < 1 + k := by omega
  obtain ⟨y0, hy0⟩ : ∃ y0, y0 = (⟨#[97]⟩ : ByteArray) ++ x0.extract 0 k := ⟨_, rfl⟩
  obtain ⟨w5, hw5⟩ : ∃ w5, w5 = w4.setCell ⟨q, 0, none⟩ (.string y0) := ⟨_, rfl⟩
  have HK := Lib.hid hk
  have HY0 := Lib.hid hy0
  have q0 : w5.cell? ⟨w2.heap.size, 0, none⟩ = some (.slice (some ⟨q, 0, none⟩) n cp) := by rw [hw5]; exact (World.cell?_setCell_far _ _ _ _ (show q ≠ w2.heap.size by omega)).trans p5
  have hr5 : w5.heap[w.heap.size]? = some (.cells #[.slice none 0 0] 67 (0, 0)) ∧ Below w.heap.size w w5 := by
    have hsz := HSZ.out
    refine ⟨?_, by rw [hw5]; exact hr4.out.2.setCell (p := ⟨q, 0, none⟩) (show w.heap.size ≤ q by omega) _⟩
    rw [hw5, Below.heap_setCell w4 ⟨q, 0, none⟩ _ w.heap.size (show w.heap.size ≠ q by omega)]
    exact hr4.out.1
  obtain ⟨q1, q2⟩ := heap_cell hr5.1
  obtain ⟨w6, hw6⟩ : ∃ w6, w6 = w5.setCell ⟨w.heap.size, 0, none⟩ (.slice (some ⟨q, 0, none⟩) n cp) := ⟨_, rfl⟩
  have q3 : w6.cell? ⟨w.heap.size, 0, none⟩ = some (.slice (some ⟨q, 0, none⟩) n cp) := by rw [hw6]; exact World.cell?_setCell_same w5 ⟨w.heap.size, 0, none⟩ _ q1
  have hend : Hid (RdSub w6 (some ⟨q, 0, none⟩) n cp (grS L x0) ∧ Below w.heap.size w w6) := by
    have hsz := HSZ.out
    obtain ⟨hg, hgl2⟩ := grS_ok HOK.out HX0.out
    refine ⟨⟨by rw [hgl2, HN.out], .inr ⟨q, cp, by rw [hgl2, HN.out], by rw [hgl2, HN.out]; exact hcp, fun j y hy => ?_⟩⟩, by rw [hw6]; exact hr5.2.setCell (p := ⟨w.heap.size, 0, none⟩) (Nat.le_refl _) _⟩
    rw [hw6, World.cell?_setCell_far _ _ _ _ (show w.heap.size ≠ q by omega), hw5]
    cases j with
    | zero =>
      have hy' : y0 = y := by
        rw [HY0.out, HK.out]
        exact Option.some.inj hy
      rw [← hy']
      exact World.cell?_setCell_same w4 ⟨q, 0, none⟩ _ p6
    | succ j =>
      rw [World.cell?_setCell_other _ _ _ _ (by intro e; cases e), hfar.out]
      refine hrow.out (j + 1) y ?_
      have : L.tail[j]? = some y := hy
      rw [List.getElem?_tail] at this
      exact this
  have HW5 := Lib.hid hw5
  have HW6 := Lib.hid hw6
  rw [hw5] at q0 q1 q2
  rw [hw6, hw5] at q3
  rw [hy0] at q0 q1 q2 q3
  clear hk hy0 hr5 hw5 hw6
  go_region_law (fail)
  all_goals
    go_wp2_with fail
    refine bodyPost_ret (v := .agg #[.slice (some ⟨q, 0, none⟩) n cp]) (by simp [results, Try.results69, go_sem, q3]) rfl ?_
    obtain ⟨hg, hgl2⟩ := grS_ok HOK.out HX0.out
    rw [← HY0.out, ← HW5.out, ← HW6.out]
    refine ⟨some ⟨q, 0, none⟩, cp, grS L x0, by rw [hgl2, HN.out]; rfl, ?_, hg, below_drewN hend.out.2 1⟩
    have := hend.out.1.drawn 1
    rw [hgl2, HN.out]
    exact this
end Go.Proofs.Ytlmciomoimfajaa
