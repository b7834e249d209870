/- Contract of GapsOf in the program. Conditions: none beyond int64 arguments. -/
import Derived.Test.YticbdpkmpnechaaS4
import Derived.Deep.AppendLies
import Derived.Deep.RegionLaw
namespace Go.Proofs.Yticbdpkmpnechaa
open Go.RowKit Go.Sort
set_option linter.unusedVariables false
set_option linter.unusedSimpArgs false

theorem stepI {w0 : World} {ops : Array Oper} {o : Oper} {a : Act} {K : Act → World → Prop} {Q : Exit → Act → World → Prop} {E : Prop} (hgd : o.guard = none) (s x : Operand)
    (ho : o.op = .call { callee := .builtin .append, args := #[s, x], argTypes := #[22, 22] })
    (base : Nat) (v : Value) (l : List Int) (hs : a.eval s = v) (hown : OwnI w0 base v l) (y : Int)
    (hx : a.eval x = .slice (some ⟨w0.heap.size, 0, none⟩) 1 1) (hlen : l.length ≤ 1099511627776) (hbase : base ≤ w0.heap.size)
    (h : ∀ v' w', OwnI w' base v' (l ++ [y]) → w0.grownBy w' v.ownBlock → K (a.put o.dst v') w') :
    if Region.wanted o (yielded ops a.tmps) = true then Oper.wp Try.prog o a (w0.alloc (.cells #[.int .i64 y] 3)) K Q else E := by
  obtain ⟨i, hi, hz, h1, h2⟩ := info_parts info_int
  have e : iv l ++ [.int .i64 y] = iv (l ++ [y]) := by simp [iv]
  have hown' : (w0.alloc (.cells #[.int .i64 y] 3)).ownsRow base 3 1 v l.length (iv l) := World.ownsRow.alloc hown _
  refine step_append_lies _ hgd s x 22 ho base 3 i _ 1 8 Try.underlying22 hi hz h1 h2 rfl (by decide) v l.length (iv l) hs hown' ⟨w0.heap.size, 0, none⟩ 1 1 [.int .i64 y] hx rfl (one_new w0 _ _) (fun u hu => by simp at hu; subst hu; rfl) (by decide) (by unfold maxLen; omega) (by omega) (by simp; omega) _ rfl ?_
  intro g cap w' ho' hg' _ _
  rw [e] at ho'
  exact h _ w' (by unfold OwnI; simpa using ho') (grown_alloc hg')

set_option maxRecDepth 20000 in
set_option maxHeartbeats 2000000 in
theorem gapsOf_i (p q n : Int) (w : World) :
    Calls Try.prog 21 #[.int .i64 p, .int .i64 q, .int .i64 n] w (RetI (gapW p q n) w) := by
  have ha := fun W => Lib.hid (areGaps_c p q n W)
  cases hok0 : gapsOk p q n
  · have hr : Hid (gapW p q n = []) := by unfold Hid gapW; rw [show ptW p q n = [] by simp [ptW, hok0]]; rfl
    rw [hok0] at ha
    go_enter Try.func21, Try.ntmps21
    go_wp2_with fail
    refine (ha _).out.mono ?_
    rintro e w' ⟨rfl, rfl⟩
    go_wp2_with fail
    go_ret
    exact retI_nil _ _ _ hr.out (Below.refl _ _)
  have hb0 := gapsOk_iff.1 hok0
  have hpc : ∀ W, Calls Try.prog 51 #[.int .i64 p, .int .i64 q, .int .i64 n] W (RetI (ptW p q n) W) := by
    intro W
    have hr : ptW p q n = uniq (ptL p.toNat q.toNat n.toNat) := by unfold ptW; rw [if_pos hok0]
    have := pointsOf_c p.toNat q.toNat n.toNat W (by omega) (by omega) (by omega)
    rw [show ((p.toNat : Nat) : Int) = p by omega, show ((q.toNat : Nat) : Int) = q by omega, show ((n.toNat : Nat) : Int) = n by omega] at this
    rw [hr]; exact this
  have h1 := fun W => Lib.hid (hpc W)
  clear hpc
  rw [hok0] at ha
  have hgw : Hid (gapW p q n = gapTo (ptW p q n) q (ptW p q n).length) := rfl
  have hLb := ptW_len p q n
  have hbd := Lib.hid (fun i => @gAt_bd p q n i)
  have hok := Lib.hid (@ptW_ok p q n)
  obtain ⟨L, hL⟩ : ∃ L, L = ptW p q n := ⟨_, rfl⟩
  rw [← hL] at h1 hgw hLb hbd hok
  clear hL hok0
  go_enter Try.func21, Try.ntmps21
  go_wp2_with fail
  refine (ha _).out.mono ?_
  rintro e w' ⟨rfl, rfl⟩
  go_wp2_with fail
  refine (h1 _).out.mono ?_
  rintro e w1 ⟨v0, rfl, ho, hb⟩
  have HO := Lib.hid ho
  have HB := Lib.hid hb
  have hs1 := hb.size
  have hrd := ho.rd
  clear ho hb
  have hst0 : Hid (OwnI (w1.alloc (.cells #[] 3)) w1.heap.size (.slice (some ⟨w1.heap.size, 0, none⟩) 0 0) []) := ownI_empty w1 (Nat.le_refl _)
  rcases hrd with ⟨rfl, h0⟩ | ⟨g, cap, rfl, hcap, hc⟩
  · subst h0
    go_wp2
    refine wp_loop_rounds 1 ?_
    rw [rounds_succ]
    go_wp2
    go_ret
    exact ⟨_, rfl, by rw [hgw.out]; exact own_base hst0.out hs1, (HB.out).alloc hs1 _⟩
  · obtain ⟨N, hN⟩ : ∃ N, N = L.length := ⟨_, rfl⟩
    have HN := Lib.hid hN
    have HC := Lib.hid hc
    rw [← hN] at hcap hLb hgw ⊢
    clear hc hN
    go_wp2
    go_loopw [8, 22] (fun o i wr => ∃ (k : Nat) (v : Value), k ≤ N ∧ i = .int .i64 k ∧ v = o ∧ Hid (OwnI wr w1.heap.size v (gapTo L q k)) ∧ Below w1.heap.size w1 wr) (fun _ i _ => N - (intOf i).toNat)
    case atStart => exact ⟨0, _, by omega, rfl, rfl, hst0, (Below.refl _ _).alloc (Nat.le_refl _) _⟩
    case round =>
      obtain ⟨k, v, hk, rfl, rfl, hown, hbi⟩ := hrel
      have hsz := hbi.size
      by_cases hlt : k < N
      · have hcell : ∀ j, j < N → wr.cell? ⟨g, j, none⟩ = some (.int .i64 (gAt L j)) := fun j hj => by
          have := HC.out j _ (gAt_get (by rw [← HN.out]; exact hj))
          rw [hbi.cell (p := ⟨g, j, none⟩) (World.block_lt_of_cell? w1 _ this)]; exact this
        have hok1 := gapsOk_iff.1 (hok.out (by intro h; rw [HN.out, h] at hlt; simp at hlt))
        obtain ⟨x, hx⟩ : ∃ x, x = gAt L k := ⟨_, rfl⟩
        have ck := hcell k hlt
        have bx := hbd.out k (by rw [← HN.out]; exact hlt)
        rw [← hx] at ck bx
        have b1 : (k : Int) < (N : Int) := by omega
        have hlen := gapTo_len L q k
        by_cases hin : k + 1 < N
        · obtain ⟨y, hy⟩ : ∃ y, y = gAt L (k + 1) := ⟨_, rfl⟩
          have ck1 := hcell (k + 1) hin
          have by1 := hbd.out (k + 1) (by rw [← HN.out]; exact hin)
          rw [← hy] at ck1 by1
          have hnx : Hid (gapTo L q (k + 1) = gapTo L q k ++ [y - x]) := by rw [hx, hy]; exact gapTo_in (by rw [← HN.out]; exact hin)
          have b2 : (k : Int) + 1 < (N : Int) := by omega
          have e1 : IntKind.i64.wrap ((k : Int) + 1) = (k : Int) + 1 := IntWalk.i64_in _ (by omega)
          have e2 : ((k : Int) + 1).toNat = k + 1 := by omega
          have e3 : IntKind.i64.wrap (y - x) = y - x := IntWalk.i64_in _ (by omega)
          clear hx hy hcell
          go_wp2
          have hk1 : 0 ≤ (k : Int) + 1 := by omega
          have hNp : 0 < N := by omega
          go_region_law (refine stepI (w0 := wr.drew) rfl (.tmp 30) (.tmp 41) rfl w1.heap.size v (gapTo L q k) (by first | rfl | simp [Act.eval])  (by exact hown.out) (y - x) (by simp [Act.eval, Act.put]) (by omega) (by exact hsz) ?_; intro v' w' hown' hg')
          all_goals
            go_wp2
            go_roundw
            case rel => exact ⟨k + 1, v', by omega, by go_num, rfl, by rw [hnx.out]; exact hown', below_app (w := wr.drew) (below_drewN hbi 1) hown.out hg' hsz⟩
            case measure => simp [intOf] <;> omega
        · obtain ⟨y, hy⟩ : ∃ y, y = gAt L 0 := ⟨_, rfl⟩
          have ck1 := hcell 0 (by omega)
          have by1 := hbd.out 0 (by rw [← HN.out]; omega)
          rw [← hy] at ck1 by1
          have hnx : Hid (gapTo L q (k + 1) = gapTo L q k ++ [y + q - x]) := by
            rw [hx, hy]; exact gapTo_last (by rw [← HN.out]; exact hin)
          have b2 : decide ((k : Int) + 1 < (N : Int)) = false := decide_eq_false (by omega)
          have b3 : (0 : Int) < (N : Int) := by omega
          have b4 : decide (0 < N) = true := decide_eq_true (by omega)
          have e1 : IntKind.i64.wrap ((k : Int) + 1) = (k : Int) + 1 := IntWalk.i64_in _ (by omega)
          have e3 : IntKind.i64.wrap (y + q) = y + q := IntWalk.i64_in _ (by omega)
          have e4 : IntKind.i64.wrap (y + q - x) = y + q - x := IntWalk.i64_in _ (by omega)
          clear hx hy hcell
          go_wp2
          have hk1 : 0 ≤ (k : Int) + 1 := by omega
          have hNp : 0 < N := by omega
          go_region_law (refine stepI (w0 := wr.drew) rfl (.tmp 43) (.tmp 54) rfl w1.heap.size v (gapTo L q k) (by first | rfl | simp [Act.eval])  (by exact hown.out) (y + q - x) (by simp [Act.eval, Act.put]) (by omega) (by exact hsz) ?_; intro v' w' hown' hg')
          all_goals
            go_wp2
            go_roundw
            case rel => exact ⟨k + 1, v', by omega, by go_num, rfl, by rw [hnx.out]; exact hown', below_app (w := wr.drew) (below_drewN hbi 1) hown.out hg' hsz⟩
            case measure => simp [intOf] <;> omega
      · obtain rfl : k = N := by omega
        have hfin : Hid (OwnI wr w.heap.size v (gapW p q n)) := by rw [hgw.out]; exact own_base hown.out hs1
        have hbf := Lib.hid (HB.out.trans (hbi.mono hs1))
        go_wp2
        go_ret
        exact ⟨_, rfl, hfin.out, hbf.out⟩
end Go.Proofs.Yticbdpkmpnechaa
