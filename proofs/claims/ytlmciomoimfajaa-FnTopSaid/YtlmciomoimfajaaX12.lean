/- Contracts of l05Start and MakeLong of the reference at the letter a: the first letters of the fixed point. Conditions: a substitution for which a is growing, whose images can be read. -/
import Derived.Test.YtlmciomoimfajaaX5
namespace Go.Proofs.Ytlmciomoimfajaa
open Go.RowKit
set_option linter.unusedVariables false

/-- 'append(b, part...)' of bytes that can be read, at a row whose mark lies behind its end -/
theorem run_appM_row {w : World} {B : Nat} {v : Value} {l : List UInt8} (ty : TypeId) (h : OwnM w B v l) (gx n cx : Nat) (ls : List UInt8) (hn : ls.length = n) (hx : ∀ j (hj : j < ls.length), w.cell? ⟨gx, j, none⟩ = some (.int .u8 (ls[j].toNat : Int))) (hlen : l.length + n ≤ 1099511627776) (hB : B ≤ w.heap.size) :
    ∃ v' w', (Builtin.append_ #[22, 22] ty #[v, .slice (some ⟨gx, 0, none⟩) n cx]).run Try.prog w = .ok v' w' ∧ OwnM w' B v' (l ++ ls) ∧ w.grownBy w' v.ownBlock := by
  obtain ⟨i, hi, hz, h1, h2⟩ := info_parts info_u8
  have hrd := h.read
  obtain ⟨g, cap, cur, fz, rfl, hb, hg, hfz, hnc, hcm, hcs, htake⟩ := h
  have hnl : (bv ls).length = n := by rw [bv_len, hn]
  have hbl : (bv l ++ bv ls).length = l.length + n := by rw [List.length_append, bv_len, hnl]
  have hnews : ∀ j u, (bv ls)[j]? = some u → w.cell? ((⟨gx, 0, none⟩ : Addr).add j) = some u := fun j u hu => by
    have hj : j < ls.length := by have := (List.getElem?_eq_some_iff.1 hu).1; rw [bv_len] at this; exact this
    rw [addr0, hx j hj]
    simp [bv, List.getElem?_eq_getElem hj] at hu
    rw [← hu]
  have hone : ∀ u ∈ bv ls, u.oneCell' = true := fun u hu => by
    simp only [bv, List.mem_map] at hu
    obtain ⟨y, _, rfl⟩ := hu
    rfl
  by_cases hroom : l.length + n ≤ cap
  · have hf := run_firstCells_some (P := Try.prog) w i.size n ⟨gx, 0, none⟩ n cx (bv ls) (by rw [hnl, h1, Nat.mul_one]) hnews
    rw [h1] at hf
    have hst := storeM Try.prog g 5 fz (bv ls) l.length 0 cur w hg (by rw [hcs]; exact hfz) (by rw [hnl]; omega) hone
    simp only [Nat.add_zero, hnl] at hst
    have hr : (Builtin.append_ #[22, 22] ty #[.slice (some ⟨g, 0, none⟩) l.length cap, .slice (some ⟨gx, 0, none⟩) n cx]).run Try.prog w = .ok (.slice (some ⟨g, 0, none⟩) (l.length + n) cap) (w.setRow g (cur.toList.take l.length ++ bv ls ++ cur.toList.drop (l.length + n)).toArray) := by
      simp [Builtin.append_, run_underlying Try.underlying22, sizeOf, typeInfo, hi, h1, Builtin.lenOf, hroom, hf, Addr.add_lit, hst]
    refine ⟨_, _, hr, ⟨g, cap, _, fz, by rw [List.length_append, hn], hb, setRow_heap w g cur _ _ _ hg, hfz, by rw [List.length_append, hn]; exact hroom, hcm, ?_, ?_⟩, grown_set _ _ _ _ _⟩
    · simp only [List.size_toArray, List.length_append, List.length_take, List.length_drop, Array.length_toList, hnl]
      omega
    · rw [htake, bv_app]
      show (bv l ++ bv ls ++ _).take _ = _
      rw [List.length_append, hn, ← hbl, List.take_left]
  · obtain ⟨g2, cap2, e2, _, hc2⟩ := hrd
    have holds : ∀ j x, (bv l)[j]? = some x → w.cell? ((⟨g, 0, none⟩ : Addr).add j) = some x := fun j x hx => by
      cases e2
      have hj : j < l.length := by have := (List.getElem?_eq_some_iff.1 hx).1; rw [bv_len] at this; exact this
      rw [addr0, hc2 j hj]
      simp [bv, List.getElem?_eq_getElem hj] at hx
      rw [← hx]
    have hr := run_append_grow (P := Try.prog) w 22 ty 5 i (.int .u8 0) Try.underlying22 hi hz ⟨g, 0, none⟩ l.length cap (bv l) (by rw [h1, bv_len, Nat.mul_one]) holds ⟨gx, 0, none⟩ n cx (bv ls) (by rw [h1, hnl, Nat.mul_one]) hnews (by omega) (by omega) (by rw [h2]; exact growslice_fits (by omega) (by omega))
    have hge := grownCap_ge w (l.length + n) cap 5
    have hcm2 := grownCap_le_maxLen w (l.length + n) cap 5 (by unfold maxLen; omega)
    refine ⟨_, _, hr, ⟨w.heap.size, _, _, (0, 0), by rw [List.length_append, hn], hB, heap_alloc_new w.drew _, .inl rfl, by rw [List.length_append, hn]; exact hge, hcm2, ?_, ?_⟩, ⟨rfl, rfl, rfl, by simp, fun k hk _ => Below.heap_alloc w.drew _ k hk⟩⟩
    · have hz1 : (Value.int IntKind.u8 0).cells.size = 1 := rfl
      simp only [Array.size_append, List.size_toArray, size_zeroCells, hz1, bv_len, hn]
      omega
    · simp only [Array.toList_append, List.append_assoc, bv_app]
      rw [← List.append_assoc, List.length_append, hn, ← hbl]
      exact List.take_left
theorem stepM_row {w0 : World} {ops : Array Oper} {o : Oper} {a : Act} {K : Act → World → Prop} {Q : Exit → Act → World → Prop} {E : Prop} (hgd : o.guard = none) (s x : Operand)
    (ho : o.op = .call { callee := .builtin .append, args := #[s, x], argTypes := #[22, 22] })
    (base : Nat) (v : Value) (l : List UInt8) (hs : a.eval s = v) (hown : OwnM w0 base v l) (gx n cx : Nat) (ls : List UInt8) (hn : ls.length = n) (hrd : ∀ j (hj : j < ls.length), w0.cell? ⟨gx, j, none⟩ = some (.int .u8 (ls[j].toNat : Int)))
    (hx : a.eval x = .slice (some ⟨gx, 0, none⟩) n cx) (hlen : l.length + n ≤ 1099511627776) (hbase : base ≤ w0.heap.size)
    (h : ∀ v' w', OwnM w' base v' (l ++ ls) → w0.grownBy w' v.ownBlock → K (a.put o.dst v') w') :
    if Region.wanted o (yielded ops a.tmps) = true then Oper.wp Try.prog o a w0 K Q else E := by
  have hw : Region.wanted o (yielded ops a.tmps) = true := by simp [Region.wanted, hgd]
  rw [if_pos hw]
  obtain ⟨v', w', hr, h2, h3⟩ := run_appM_row o.type hown gx n cx ls hn hrd hlen hbase
  unfold Oper.wp execOp
  simp only [ho, resolve, invoke, builtin, Sem.run_bind, Sem.run_pure, Result.andThen_ok, List.map_toArray, List.map_cons, List.map_nil, hs, hx, hr]
  exact h v' w' h2 h3
set_option maxRecDepth 20000 in
set_option maxHeartbeats 4000000 in
theorem l05Start_c (ga : Option Addr) (n c : Nat) (L : List ByteArray) (m : Nat) (w : World) (h : RdSub w ga n c L) (hg : GrL L) (hm : m ≤ 20000) :
    Calls Try.prog 122 #[sbV ga n c, .int .i64 0, .int .i64 (m : Int)] w fun e w' => e = .returned (.string (St (fxL L m))) ∧ Below w.heap.size w w' := by
  have hok := hg.toOkL
  have hn := h.1
  have h4 := hok.four
  have h0 := hok.one
  have hn1 : 0 < n := by omega
  have HRD := Lib.hid (fun W (hW : Below w.heap.size w W) => h.below hW)
  have hBD := Lib.hid (fun k (hk : inL L k) => imL_bd hok hk)
  have hst := Lib.hid (fxI_start hg)
  have hstep := Lib.hid (fun out i (hI : FxI L out i) k (hk : out[i]? = some k) => fxI_step hg hI hk)
  have hfin := Lib.hid (fun out (ho : FixP L out) (hl : m ≤ out.length) => fixP_St hg ho hl)
  have hat := Lib.hid (fun k (hk : inL L k) => imL_at hk)
  obtain ⟨x0, hx0, _, hx0e⟩ := imL_at (in_a hok)
  rw [show (97 : UInt8).toNat - 97 = 0 from rfl] at hx0
  have ha := imL_bd hok (in_a hok)
  have hx0z : x0.size ≤ 8 := by rw [size_len, ← hx0e]; exact ha.2.1
  unfold sbV
  have hba : Below w.heap.size w (w.alloc (.cells #[.slice ga n c] 67)) := (Below.refl _ _).alloc (Nat.le_refl _) _
  have cw := box_cell w (.slice ga n c) 67
  obtain ⟨wa, hwa⟩ : ∃ wa, wa = w.alloc (.cells #[.slice ga n c] 67) := ⟨_, rfl⟩
  have hszw : w.heap.size < wa.heap.size := by rw [hwa]; simp
  rw [← hwa] at cw hba
  have CW := Lib.hid (fun W (hW : Below wa.heap.size wa W) => show W.cell? ⟨w.heap.size, 0, none⟩ = some (.slice ga n c) by rw [hW.cell (p := ⟨w.heap.size, 0, none⟩) hszw]; exact cw)
  have HBA := Lib.hid hba
  have HWA := Lib.hid hwa
  obtain ⟨g0, hg0, hcap0, cx0⟩ := (HRD.out wa hba).get hx0
  subst hg0
  have hcv := run_conv wa x0
  have hown0 : Hid (OwnM (Lib.bytesWorld wa 5 x0) wa.heap.size (.slice (some ⟨wa.heap.size, 0, none⟩) x0.size (grownCap wa x0.size 0 5)) (imL L 97)) := by
    rw [hx0e]; exact ownM_conv wa wa.heap.size x0 (Nat.le_refl _) (by omega)
  have hb0 : Hid (Below wa.heap.size wa (Lib.bytesWorld wa 5 x0)) := below_conv x0 (Below.refl _ _) (Nat.le_refl _)
  have b0 : (0 : Int) < (n : Int) := by omega
  have hlen0 : (imL L 97).length ≤ m + 8 := by have := ha.2.1; omega
  have cb := cw
  have HNL := Lib.hid hn
  have hn4 : n ≤ 4 := by omega
  clear h hwa hba cw hn h4 h0 hok hx0 hx0e ha hg
  go_enter Try.func122, Try.ntmps122
  go_upto_region 1 with fail
  rw [← HWA.out]
  go_wp2_with fail
  go_loopw [7, 8] (fun y z wr => ∃ (i : Nat) (out : List UInt8) (v : Value), v = y ∧ z = .int .i64 (i : Int) ∧ i ≤ 40000 ∧ Hid (OwnM wr wa.heap.size v out) ∧ Hid (FxI L out i) ∧ out.length ≤ m + 8 ∧ Below wa.heap.size wa wr) (fun y _ _ => m - lenV y)
  case atStart => exact ⟨1, _, _, rfl, rfl, by omega, hown0, hst, hlen0, hb0.out⟩
  case round =>
    obtain ⟨i, out, v, rfl, rfl, hi4, hown, hfx, hol, hbr⟩ := hrel
    obtain ⟨g, cap, hv, hcap, hcell⟩ := hown.out.read
    subst hv
    have hil := hfx.out.lt
    have hszr := hbr.size
    obtain ⟨N, hN⟩ : ∃ N, N = out.length := ⟨_, rfl⟩
    have HN := Lib.hid hN
    by_cases hlt : N < m
    · obtain ⟨k, hk⟩ : ∃ k, out[i]? = some k := ⟨_, List.getElem?_eq_getElem hil⟩
      have hkin : inL L k := hfx.out.fx.let_ k (List.mem_of_getElem? hk)
      have hci := hcell i hil
      rw [show out[i] = k from (List.getElem?_eq_some_iff.1 hk).2] at hci
      obtain ⟨j, hj, hjl⟩ := inL_idx hkin
      have hjn : j < n := by rw [HNL.out]; exact hjl
      clear hjl
      obtain ⟨u2, hu2, _, hu2e⟩ := hat.out k hkin
      rw [show k.toNat - 97 = j by omega] at hu2
      obtain ⟨g', hg', _, cu2⟩ := (HRD.out wr (HBA.out.trans (hbr.mono (by omega)))).get hu2
      obtain rfl : g0 = g' := by cases hg'; rfl
      have hb8 := hBD.out k hkin
      have hu2z : u2.size = (imL L k).length := by rw [hu2e, size_len]
      have hnx := Lib.hid (hstep.out out i hfx.out k hk)
      rw [hu2e] at hnx
      have hnl : (out ++ u2.data.toList).length = N + u2.size := by rw [List.length_append, ← hN, ← size_len]
      have cbr := CW.out wr hbr
      have hcv2 := run_conv wr u2
      have hcv3 := run_conv wr.drew u2
      have hbx : Hid (Below wa.heap.size wa (Lib.bytesWorld wr.drew 5 u2)) := below_conv u2 (show Below wa.heap.size wa wr.drew from below_drewN hbr 1) hszr
      have hszx := hbx.out.size
      have hownx : Hid (OwnM (Lib.bytesWorld wr.drew 5 u2) wa.heap.size (.slice (some ⟨g, 0, none⟩) out.length cap) out) := OwnM.kept (w := wr.drew) hown.out.drew (grown_conv wr.drew u2 none) (by intro e; cases e)
      have hnews : Hid (∀ j (hj : j < u2.data.toList.length), (Lib.bytesWorld wr.drew 5 u2).cell? ⟨wr.heap.size, j, none⟩ = some (.int .u8 (u2.data.toList[j].toNat : Int))) := fun j hj => by
        have := (ownM_conv wr.drew wa.heap.size u2 hszr (by omega)).read
        obtain ⟨g5, c5, e5, _, h5⟩ := this
        cases e5
        exact h5 j hj
      have b1 : (N : Int) < (m : Int) := by omega
      have b2 : (i : Int) < (N : Int) := by omega
      have b3 : i < N := by omega
      have b4 : (j : Int) < (n : Int) := by omega
      have b5 : j < n := by omega
      have e1 : (k.toNat : Int) - 97 = (j : Int) := by omega
      have e2 : IntKind.u8.wrap (j : Int) = (j : Int) := by
        unfold IntKind.wrap; simp [IntKind.signed, IntKind.bits]; omega
      have hzb : u2.size ≤ 8 := by omega
      have hz1 : 1 ≤ u2.size := by omega
      have HNL2 := Lib.hid hnl
      rw [← hN] at hownx hcap ⊢
      clear hk hkin hcell hb8 hu2 hu2z hN hil hnl hown hj hu2e hg'
      go_wp2_with fail
      go_region_law (first | (refine stepM_row (w0 := Lib.bytesWorld wr.drew 5 u2) rfl (.tmp 21) (.tmp 31) rfl wa.heap.size (.slice (some ⟨g, 0, none⟩) N cap) out (by first | rfl | simp [Act.eval]) (by exact hownx.out) wr.heap.size u2.size (grownCap wr.drew u2.size 0 5) u2.data.toList (size_len u2).symm (by exact hnews.out) (by first | rfl | simp [Act.eval]) (by rw [← HN.out]; omega) hszx ?_; intro v' w' hown' hg') | fail)
      all_goals
        go_wp2_with fail
        go_roundw
        case rel => exact ⟨i + 1, out ++ u2.data.toList, v', rfl, by go_num, by omega, hown', hnx, by rw [HNL2.out]; omega, below_appM hbx.out hownx.out hg' hszx⟩
        case measure =>
          have := World.ownM_len hown'
          rw [HNL2.out] at this
          rw [this]; show m - (N + u2.size) < m - N; omega
    · have b1 : decide ((N : Int) < (m : Int)) = false := decide_eq_false (by omega)
      have hbw := Lib.hid (HBA.out.trans (hbr.mono (by omega)))
      have htk := Lib.hid (hfin.out out hfx.out.fx (by omega))
      have hcv4 : (convert 22 9 (.slice (some ⟨g, 0, none⟩) m cap)).run Try.prog wr = .ok (.string (St (fxL L m))) wr := by
        rw [← htk.out]
        refine conv_part (by rw [List.length_take]; omega) fun j hj => ?_
        rw [List.length_take] at hj
        rw [Nat.zero_add, hcell j (by omega), List.getElem_take]
      have d1 : (m : Int) ≤ (cap : Int) := by omega
      have hmc : m ≤ cap := by omega
      rw [← hN] at hol hil hcap ⊢
      clear hown hcell hN
      go_wp2_with fail
      go_ret
      exact ⟨rfl, hbw.out⟩
set_option maxRecDepth 20000 in
theorem makeLong_c (ga : Option Addr) (n c : Nat) (L : List ByteArray) (m : Nat) (w : World) (h : RdSub w ga n c L) (hg : GrL L) (hm : m ≤ 20000) :
    Calls Try.prog 82 #[sbV ga n c, .int .i64 (m : Int)] w fun e w' => e = .returned (.string (St (fxL L m))) ∧ Below w.heap.size w w' := by
  have h1 := Lib.hid (fun W (hW : Below w.heap.size w W) => l05Start_c ga n c L m W (h.below hW) hg hm)
  have hba : Hid (Below w.heap.size w (w.alloc (.cells #[.slice ga n c] 67))) := (Below.refl _ _).alloc (Nat.le_refl _) _
  unfold sbV at h1 ⊢
  obtain ⟨wa, hwa⟩ : ∃ wa, wa = w.alloc (.cells #[.slice ga n c] 67) := ⟨_, rfl⟩
  rw [← hwa] at hba
  have HWA := Lib.hid hwa
  clear h hg hwa
  go_enter Try.func82, Try.ntmps82
  go_wp2_with fail
  rw [← HWA.out]
  refine (h1.out wa hba.out).mono ?_
  rintro e w1 ⟨rfl, b1⟩
  have K1 := Lib.hid (hba.out.trans (b1.mono hba.out.size))
  clear b1
  go_wp2_with fail
  go_ret
  exact ⟨rfl, K1.out⟩
end Go.Proofs.Ytlmciomoimfajaa
