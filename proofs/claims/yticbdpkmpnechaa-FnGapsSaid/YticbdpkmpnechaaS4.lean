/- Contract of GapsOf in the reference. Conditions: none beyond int64 arguments. -/
import Derived.Test.YticbdpkmpnechaaS3
import Derived.Test.YticbdpkmpnechaaV0
namespace Go.Proofs.Yticbdpkmpnechaa
open Go.RowKit Go.Sort
set_option linter.unusedVariables false

def gapTo (l : List Int) (q : Int) : Nat → List Int
  | 0 => []
  | k + 1 => gapTo l q k ++ [if k + 1 < l.length then gAt l (k + 1) - gAt l k else gAt l 0 + q - gAt l k]
theorem gapTo_len (l : List Int) (q : Int) : ∀ k, (gapTo l q k).length = k
  | 0 => rfl
  | k + 1 => by rw [gapTo, List.length_append, gapTo_len l q k]; rfl
theorem gapTo_in {l : List Int} {q : Int} {k : Nat} (h : k + 1 < l.length) : gapTo l q (k + 1) = gapTo l q k ++ [gAt l (k + 1) - gAt l k] := by rw [gapTo, if_pos h]
theorem gapTo_last {l : List Int} {q : Int} {k : Nat} (h : ¬ k + 1 < l.length) : gapTo l q (k + 1) = gapTo l q k ++ [gAt l 0 + q - gAt l k] := by rw [gapTo, if_neg h]
def gapW (p q n : Int) : List Int := gapTo (ptW p q n) q (ptW p q n).length
theorem gapW_len (p q n : Int) : (gapW p q n).length ≤ 400 := by unfold gapW; rw [gapTo_len]; exact ptW_len p q n
theorem ptW_bd {p q n x : Int} (h : x ∈ ptW p q n) : 0 ≤ x ∧ x ≤ 1000 := by
  unfold ptW at h
  split at h
  · rename_i hok
    have hb := gapsOk_iff.1 hok
    obtain ⟨k, _, rfl⟩ := ptL_mem.1 ((uniq_mem _ _).1 h)
    have := Nat.mod_lt (k * p.toNat) (show q.toNat > 0 by omega)
    omega
  · simp at h
theorem gAt_bd {p q n : Int} {i : Nat} (h : i < (ptW p q n).length) : 0 ≤ gAt (ptW p q n) i ∧ gAt (ptW p q n) i ≤ 1000 :=
  ptW_bd (List.mem_of_getElem? (gAt_get h))
theorem ptW_ok {p q n : Int} (h : ptW p q n ≠ []) : gapsOk p q n = true := by
  unfold ptW at h
  split at h
  · assumption
  · exact absurd rfl h

set_option maxHeartbeats 2000000 in
theorem gapsOf_s (p q n : Int) (w : World) :
    Calls Try.prog 20 #[.int .i64 p, .int .i64 q, .int .i64 n] w (RetI (gapW p q n) w) := by
  have h1 := fun W => Lib.hid (pointsOf_s p q n W)
  have hgw : Hid (gapW p q n = gapTo (ptW p q n) q (ptW p q n).length) := rfl
  have hLb := ptW_len p q n
  have hbd := Lib.hid (fun i => @gAt_bd p q n i)
  have hok := Lib.hid (@ptW_ok p q n)
  obtain ⟨L, hL⟩ : ∃ L, L = ptW p q n := ⟨_, rfl⟩
  rw [← hL] at h1 hgw hLb hbd hok
  clear hL
  go_enter Try.func20, Try.ntmps20
  go_wp2_with fail
  refine (h1 _).out.mono ?_
  rintro e w1 ⟨v0, rfl, ho, hb⟩
  have HO := Lib.hid ho
  have HB := Lib.hid hb
  have hs1 := hb.size
  have hrd := ho.rd
  clear ho hb
  have hst0 : Hid (OwnI (w1.alloc (.cells #[] 3)) w1.heap.size (.slice (some ⟨w1.heap.size, 0, none⟩) 0 0) []) := ownI_empty w1 (Nat.le_refl _)
  rcases hrd with ⟨rfl, h0⟩ | ⟨g, cap, rfl, hcap, hc⟩
  · subst h0
    go_wp2
    refine wp_loop_rounds 1 ?_
    rw [rounds_succ]
    go_wp2
    go_ret
    exact ⟨_, rfl, by rw [hgw.out]; exact own_base hst0.out hs1, (HB.out).alloc hs1 _⟩
  · obtain ⟨N, hN⟩ : ∃ N, N = L.length := ⟨_, rfl⟩
    have HN := Lib.hid hN
    have HC := Lib.hid hc
    rw [← hN] at hcap hLb hgw ⊢
    clear hc hN
    go_wp2
    go_loopw [8, 18] (fun o i wr => ∃ (k : Nat) (v : Value), k ≤ N ∧ i = .int .i64 k ∧ v = o ∧ Hid (OwnI wr w1.heap.size v (gapTo L q k)) ∧ Below w1.heap.size w1 wr) (fun _ i _ => N - (intOf i).toNat)
    case atStart => exact ⟨0, _, by omega, rfl, rfl, hst0, (Below.refl _ _).alloc (Nat.le_refl _) _⟩
    case round =>
      obtain ⟨k, v, hk, rfl, rfl, hown, hbi⟩ := hrel
      have hsz := hbi.size
      by_cases hlt : k < N
      · have hcell : ∀ j, j < N → wr.cell? ⟨g, j, none⟩ = some (.int .i64 (gAt L j)) := fun j hj => by
          have := HC.out j _ (gAt_get (by rw [← HN.out]; exact hj))
          rw [hbi.cell (p := ⟨g, j, none⟩) (World.block_lt_of_cell? w1 _ this)]; exact this
        have hok1 := gapsOk_iff.1 (hok.out (by intro h; rw [HN.out, h] at hlt; simp at hlt))
        obtain ⟨x, hx⟩ : ∃ x, x = gAt L k := ⟨_, rfl⟩
        have ck := hcell k hlt
        have bx := hbd.out k (by rw [← HN.out]; exact hlt)
        rw [← hx] at ck bx
        have b1 : (k : Int) < (N : Int) := by omega
        have hlen := gapTo_len L q k
        by_cases hin : k + 1 < N
        · obtain ⟨y, hy⟩ : ∃ y, y = gAt L (k + 1) := ⟨_, rfl⟩
          have ck1 := hcell (k + 1) hin
          have by1 := hbd.out (k + 1) (by rw [← HN.out]; exact hin)
          rw [← hy] at ck1 by1
          have hnx : Hid (gapTo L q (k + 1) = gapTo L q k ++ [y - x]) := by rw [hx, hy]; exact gapTo_in (by rw [← HN.out]; exact hin)
          have b2 : (k : Int) + 1 < (N : Int) := by omega
          have e1 : IntKind.i64.wrap ((k : Int) + 1) = (k : Int) + 1 := IntWalk.i64_in _ (by omega)
          have e2 : ((k : Int) + 1).toNat = k + 1 := by omega
          have e3 : IntKind.i64.wrap (y - x) = y - x := IntWalk.i64_in _ (by omega)
          clear hx hy hcell
          go_wp2_with (at_builtin; refine appI rfl _ _ rfl w1.heap.size _ (gapTo L q k) rfl (by exact hown.out) _ rfl (by omega) (by exact hsz) ?_; intro v' w' hown' hg')
          go_roundw
          case rel => exact ⟨k + 1, v', by omega, by go_num, rfl, by rw [hnx.out]; exact hown', below_app hbi hown.out hg' hsz⟩
          case measure => simp [intOf] <;> omega
        · obtain ⟨y, hy⟩ : ∃ y, y = gAt L 0 := ⟨_, rfl⟩
          have ck1 := hcell 0 (by omega)
          have by1 := hbd.out 0 (by rw [← HN.out]; omega)
          rw [← hy] at ck1 by1
          have hnx : Hid (gapTo L q (k + 1) = gapTo L q k ++ [q - x + y]) := by
            rw [hx, hy, show q - gAt L k + gAt L 0 = gAt L 0 + q - gAt L k by omega]; exact gapTo_last (by rw [← HN.out]; exact hin)
          have b2 : decide ((k : Int) + 1 < (N : Int)) = false := decide_eq_false (by omega)
          have b3 : (0 : Int) < (N : Int) := by omega
          have b4 : decide (0 < N) = true := decide_eq_true (by omega)
          have e1 : IntKind.i64.wrap ((k : Int) + 1) = (k : Int) + 1 := IntWalk.i64_in _ (by omega)
          have e3 : IntKind.i64.wrap (q - x) = q - x := IntWalk.i64_in _ (by omega)
          have e4 : IntKind.i64.wrap (q - x + y) = q - x + y := IntWalk.i64_in _ (by omega)
          clear hx hy hcell
          go_wp2_with (at_builtin; refine appI rfl _ _ rfl w1.heap.size _ (gapTo L q k) rfl (by exact hown.out) _ rfl (by omega) (by exact hsz) ?_; intro v' w' hown' hg')
          go_roundw
          case rel => exact ⟨k + 1, v', by omega, by go_num, rfl, by rw [hnx.out]; exact hown', below_app hbi hown.out hg' hsz⟩
          case measure => simp [intOf] <;> omega
      · obtain rfl : k = N := by omega
        have hfin : Hid (OwnI wr w.heap.size v (gapW p q n)) := by rw [hgw.out]; exact own_base hown.out hs1
        have hbf := Lib.hid (HB.out.trans (hbi.mono hs1))
        go_wp2
        go_ret
        exact ⟨_, rfl, hfin.out, hbf.out⟩
end Go.Proofs.Yticbdpkmpnechaa
