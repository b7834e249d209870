/- Contracts of GraphOf, ReachOf and AllFactors in the program. Conditions: words. -/
import Derived.Test.YtlmciomoimfajaaY2
import Derived.Test.YtlmciomoimfajaaT3
import Derived.Test.YtlmciomoimfajaaK4
import Derived.Test.YtlmciomoimfajaaV4
import Derived.Deep.QuietTactic
import Derived.BigQuiet
namespace Go.Proofs.Ytlmciomoimfajaa
open Go.RowKit
set_option linter.unusedVariables false

theorem own_apartT {w : World} {B : Nat} {v : Value} {n g : Nat} {xs : List Value} {t u : TypeId} {c : Array Value} (htu : t ≠ u) (h : w.ownsRow B t 1 v n xs) (hg : w.heap[g]? = some (.cells c u (0, 0))) : v.ownBlock ≠ some g := by
  rcases h.2 with ⟨rfl, _⟩ | ⟨g', cap, cu, rfl, _, hb, _⟩
  · simp [Value.ownBlock]
  · intro e
    have e' : g' = g := by simpa [Value.ownBlock] using e
    rw [e', hg] at hb
    cases hb
    exact htu rfl
theorem ownS_block {w : World} {B : Nat} {v : Value} {L : List ByteArray} (h : OwnS w B v L) : ∀ g, v.ownBlock = some g → ∃ c, w.heap[g]? = some (.cells c 9 (0, 0)) := by
  intro g e
  rcases h.2 with ⟨rfl, _⟩ | ⟨g', cap, cu, rfl, _, hb, _⟩
  · simp [Value.ownBlock] at e
  · have e' : g' = g := by simpa [Value.ownBlock] using e
    subst e'; exact ⟨_, hb⟩
theorem ownR_base {w : World} {B B0 : Nat} {v : Value} {ps : List (Int × Int)} (h : OwnR w B v ps) (hB : B0 ≤ B) : OwnR w B0 v ps := by
  obtain ⟨gs, h1, h2, h3, h4⟩ := h
  refine ⟨gs, h1, h2, ⟨h3.1, ?_⟩, fun i g p a b => ⟨(h4 i g p a b).1, Nat.le_trans hB (h4 i g p a b).2⟩⟩
  rcases h3.2 with h | ⟨g, cap, cur, hv, hb, h⟩
  · exact .inl h
  · exact .inr ⟨g, cap, cur, hv, Nat.le_trans hB hb, h⟩
theorem take_at {α : Type} {l : List α} {k : Nat} {x : α} (h : l[k]? = some x) : l.take (k + 1) = l.take k ++ [x] := by
  obtain ⟨h1, h2⟩ := List.getElem?_eq_some_iff.1 h
  rw [List.take_succ_eq_append_getElem h1, h2]
theorem grW_step {s : ByteArray} {n k : Nat} {x : ByteArray} (h : (facW s (n + 1))[k]? = some x) : (grW s n).take (k + 1) = (grW s n).take k ++ [(((srIx (facW s n) (x.extract 0 n) : Nat) : Int), ((srIx (facW s n) (x.extract 1 x.size) : Nat) : Int))] := by
  refine take_at ?_
  unfold grW
  rw [List.getElem?_map, h]; rfl
theorem srIx_le (l : List ByteArray) (x : ByteArray) : srIx l x ≤ l.length := List.countP_le_length
set_option maxRecDepth 20000 in
set_option maxHeartbeats 4000000 in
theorem graphOf_i (s : ByteArray) (n : Nat) (w : World) (hw : wordL s.data.toList = true) (h1 : 1 ≤ n) (h2 : n ≤ 399) :
    Calls Try.prog 49 #[.string s, .int .i64 (n : Int)] w fun e w' => ∃ u, e = .returned u ∧ OwnR w' w.heap.size u (grW s n) ∧ Below w.heap.size w w' := by
  have hs4 := wordL_size hw
  have c1 := fun W => Lib.hid (isLength_c s n W hw h1 (by omega))
  have c2 := fun W => Lib.hid (factorsOf_c s n W (by omega) (by omega))
  have c3 := fun W => Lib.hid (factorsOf_c s (n + 1) W (by omega) (by omega))
  have hasc := Lib.hid (facW_asc s n)
  have hfl := facW_len s n
  have hfm := facW_len s (n + 1)
  have hfs := Lib.hid (fun x => @facW_size s x (n + 1))
  have HST := Lib.hid (fun k x => @grW_step s n k x)
  have hG : Hid ((grW s n).take (facW s (n + 1)).length = grW s n) := by unfold Hid; exact List.take_of_length_le (by unfold grW; rw [List.length_map]; exact Nat.le_refl _)
  obtain ⟨L, hL⟩ : ∃ L, L = facW s n := ⟨_, rfl⟩
  obtain ⟨M, hM⟩ : ∃ M, M = facW s (n + 1) := ⟨_, rfl⟩
  obtain ⟨G, hGe⟩ : ∃ G, G = grW s n := ⟨_, rfl⟩
  rw [← hL] at c2 hasc hfl HST
  rw [← hM] at c3 hfm hfs HST hG
  rw [← hGe] at HST hG ⊢
  have hGl : Hid (∀ k, (G.take k).length ≤ M.length) := fun k => by
    rw [hGe, hM, List.length_take]; unfold grW; rw [List.length_map]; omega
  obtain ⟨n1, hn1⟩ : ∃ n1, n1 = n + 1 := ⟨_, rfl⟩
  have en : (n : Int) + 1 = (n1 : Int) := by omega
  have en2 : IntKind.i64.wrap (n1 : Int) = (n1 : Int) := IntWalk.i64_in _ (by omega)
  rw [← hn1] at c3 hfs
  have hn1b : n ≤ n1 := by omega
  have hn1c : 1 ≤ n1 := by omega
  clear hw hL hM hGe hn1
  go_enter Try.func49, Try.ntmps49
  go_wp2_with fail
  refine (c1 _).out.mono ?_
  rintro e w' ⟨rfl, rfl⟩
  go_wp2_with fail
  refine (c2 _).out.mono ?_
  rintro e w1 ⟨vL, rfl, hoL, hbL⟩
  have HBL := Lib.hid hbL
  have RL := Lib.hid (fun W (hW : Below w1.heap.size w1 W) => hoL.rd.below hW)
  obtain ⟨gl, cl, rfl, _⟩ := rdS_shape hoL.rd
  have hst0 := Lib.hid (ownR_empty w1 (Nat.le_refl w1.heap.size))
  clear hoL hbL c1 c2
  go_wp2_with fail
  refine (c3 _).out.mono ?_
  rintro e w2 ⟨vM, rfl, hoM, hbM⟩
  have hsa : (w1.alloc (.cells #[] 24)).heap.size = w1.heap.size + 1 := by simp
  rw [hsa] at hoM hbM
  have hbk := ownS_block hoM
  obtain ⟨ga, cc, rfl, hcell⟩ := rdS_shape hoM.rd
  have HC := Lib.hid hcell
  have HBK := Lib.hid hbk
  have hB2 : Hid (Below w1.heap.size w1 w2) := ((Below.refl w1.heap.size w1).alloc (Nat.le_refl _) _).trans (hbM.mono (by omega))
  have hst1 : Hid (OwnR w2 w1.heap.size (.slice (some ⟨w1.heap.size, 0, none⟩) 0 0) (G.take 0)) := by
    obtain ⟨gs, a1, a2, a3, a4⟩ := hst0.out
    have hgr : (w1.alloc (.cells #[] 24)).grownBy w2 none := ⟨hbM.os, hbM.tape, hbM.output, hbM.size, fun k hk _ => hbM.block k (by rw [hsa] at hk; exact hk)⟩
    refine ownR_grown (B := w1.heap.size) ⟨gs, a1, a2, a3, a4⟩ hgr (fun k hk => by cases hk)
  obtain ⟨N, hN⟩ : ∃ N, N = M.length := ⟨_, rfl⟩
  have HN := Lib.hid hN
  rw [← hN] at hfm ⊢
  clear hcell hN hoM hbM hbk c3 hst0
  go_wp2_with fail
  go_loopw [6, 26] (fun o z wr => ∃ (k : Nat) (v : Value), v = o ∧ z = .int .i64 (k : Int) ∧ k ≤ N ∧ Hid (OwnR wr w1.heap.size v (G.take k)) ∧ Hid (∀ g, ga = some ⟨g, 0, none⟩ → wr.heap[g]? = w2.heap[g]?) ∧ Below w1.heap.size w1 wr ∧ w2.heap.size ≤ wr.heap.size) (fun _ z _ => N - (intOf z).toNat)
  case atStart => exact ⟨0, _, rfl, rfl, by omega, hst1, fun _ _ => rfl, hB2.out, Nat.le_refl _⟩
  case round =>
    obtain ⟨k, v, rfl, rfl, hk, hown, hkeep, hbw, hwz⟩ := hrel
    have hsz := hbw.size
    by_cases hlk : k < N
    · obtain ⟨x, hx⟩ : ∃ x, M[k]? = some x := ⟨_, List.getElem?_eq_getElem (by rw [← HN.out]; exact hlk)⟩
      obtain ⟨g, rfl, cx0, hcap⟩ := HC.out k x hx
      rw [← HN.out] at hcap
      have cx : wr.cell? ⟨g, k, none⟩ = some (.string x) := by rw [← cx0]; unfold World.cell?; rw [hkeep.out g rfl]
      have hxs := hfs.out x (List.mem_of_getElem? hx)
      have hst := Lib.hid (HST.out k x hx)
      have b1 : (k : Int) < (N : Int) := by omega
      have b2 : (n : Int) ≤ (x.size : Int) := by omega
      have b3 : (1 : Int) ≤ (x.size : Int) := by omega
      have q1 := Lib.hid (fun W (hW : Below w1.heap.size w1 W) => bsearch_c (.slice gl L.length cl) L (x.extract 0 n) W (RL.out W hW) hasc.out (by omega))
      have q2 := Lib.hid (fun W (hW : Below w1.heap.size w1 W) => bsearch_c (.slice gl L.length cl) L (x.extract 1 x.size) W (RL.out W hW) hasc.out (by omega))
      have z1 := srIx_le L (x.extract 0 n)
      have z2 := srIx_le L (x.extract 1 x.size)
      obtain ⟨s1, hs1⟩ : ∃ s1, s1 = srIx L (x.extract 0 n) := ⟨_, rfl⟩
      obtain ⟨s2, hs2⟩ : ∃ s2, s2 = srIx L (x.extract 1 x.size) := ⟨_, rfl⟩
      rw [← hs1] at q1 hst z1
      rw [← hs2] at q2 hst z2
      have hgl := Lib.hid (hGl.out k)
      rw [← HN.out] at hgl
      have hgl2 : (G.take k).length ≤ N := hgl.out
      have HXS := Lib.hid hxs
      clear hx cx0 hs1 hs2 hxs
      go_wp2_with fail
      refine (q1.out _ hbw).mono ?_
      rintro e w' ⟨rfl, d1, rfl⟩
      have HW1 := Lib.hid (below_drewN hbw d1)
      go_wp2_with fail
      refine (q2.out _ HW1.out).mono ?_
      rintro e w' ⟨rfl, d2, rfl⟩
      have HW2 := Lib.hid (below_drewN HW1.out d2)
      obtain ⟨wx, hwx⟩ : ∃ wx, wx = (wr.drewN d1).drewN d2 := ⟨_, rfl⟩
      have hownx : Hid (OwnR wx w1.heap.size v (G.take k)) := by rw [hwx]; exact hown.out
      have hkeepx : Hid (∀ q, (some ⟨g, 0, none⟩ : Option Addr) = some ⟨q, 0, none⟩ → wx.heap[q]? = w2.heap[q]?) := by rw [hwx]; exact hkeep.out
      have hbwx : Below w1.heap.size w1 wx := by rw [hwx]; exact HW2.out
      have hszx : w2.heap.size ≤ wx.heap.size := by rw [hwx]; exact hwz
      rw [← hwx]
      have hszy := hbwx.size
      clear hwx hown hkeep cx
      go_wp2_with (at_builtin; refine appR rfl _ _ rfl w1.heap.size _ (G.take k) rfl (by exact hownx.out) _ _ rfl (by omega) (by exact hszy) ?_; intro v2 w3 hown2 hg2)
      have hkeep2 : Hid (∀ q, (some ⟨g, 0, none⟩ : Option Addr) = some ⟨q, 0, none⟩ → w3.heap[q]? = w2.heap[q]?) := fun q hq => by
        obtain ⟨c, hc⟩ := HBK.out q (by rw [hq]; rfl)
        have hq2 := hkeepx.out q hq
        have hlt := (Array.getElem?_eq_some_iff.1 hc).1
        have hne : v.ownBlock ≠ some q := by
          obtain ⟨gs, _, hl, ho, _⟩ := hownx.out
          exact own_apartT (t := 24) (u := 9) (by decide) ho (by rw [hq2]; exact hc)
        rw [hg2.block q (by omega) (fun e => hne e.symm), hq2]
      go_roundw
      case rel => exact ⟨k + 1, v2, rfl, by go_num, by omega, by rw [hst.out]; exact hown2, hkeep2, below_appR hbwx hownx.out hg2 hszy, Nat.le_trans hszx hg2.size⟩
      case measure => simp [intOf] <;> omega
    · obtain rfl : k = N := by omega
      have hfin : Hid (OwnR wr w1.heap.size v G) := by unfold Hid; rw [← hG.out, ← HN.out]; exact hown.out
      have hle := HBL.out.size
      go_wp2_with fail
      go_ret
      exact ⟨_, rfl, ownR_base hfin.out hle, HBL.out.trans (hbw.mono hle)⟩

set_option maxHeartbeats 2000000 in
theorem allFactors_i (s : ByteArray) (w : World) (hs : shortB s = true) :
    Calls Try.prog 58 #[.string s] w fun e w' => e = .returned (.int .i64 (((allF s s.size : Nat)) : Int)) ∧ Below w.heap.size w w' := by
  have h60 := (shortB_iff.1 hs).2
  have c1 := fun W => Lib.hid (isShortB_c s W (by omega))
  rw [hs] at c1
  have c2 := fun n (hn : n ≤ 61) W => Lib.hid (factorsOf_c s n W (by omega) (by omega))
  have hbd := Lib.hid (allF_bd s)
  have hst : Hid ((0 : Nat) = allF s 0) := rfl
  clear hs
  go_enter Try.func58, Try.ntmps58
  go_wp2_with fail
  refine (c1 _).out.mono ?_
  rintro e w' ⟨rfl, rfl⟩
  go_wp2_with fail
  go_loopw [3, 4] (fun y z wr => ∃ k a : Nat, z = .int .i64 ((k : Int) + 1) ∧ k ≤ s.size ∧ y = .int .i64 (a : Int) ∧ Hid (a = allF s k) ∧ Below w.heap.size w wr) (fun _ z _ => s.size + 2 - (intOf z).toNat)
  case atStart => exact ⟨0, 0, rfl, by omega, rfl, hst, Below.refl _ _⟩
  case round =>
    obtain ⟨k, a, rfl, hk, rfl, ha, hb⟩ := hrel
    have hsz := hb.size
    by_cases hlt : k < s.size
    · have b1 : (k : Int) + 1 ≤ (s.size : Int) := by omega
      obtain ⟨k1, hk1⟩ : ∃ k1, k1 = k + 1 := ⟨_, rfl⟩
      have e1 : (k : Int) + 1 = (k1 : Int) := by omega
      have hcall := c2 k1 (by omega) wr
      have hnx : Hid (a + (facW s k1).length = allF s (k + 1)) := by unfold Hid; rw [hk1, ha.out]; rfl
      have hfl := facW_len s k1
      have hab : a ≤ 60 * 61 := by
        have h1 := hbd.out k hk
        have h2 : k * (s.size + 1) ≤ 60 * 61 := Nat.mul_le_mul (by omega) (by omega)
        rw [ha.out]; omega
      obtain ⟨F, hF⟩ : ∃ F, F = facW s k1 := ⟨_, rfl⟩
      rw [← hF] at hcall hnx hfl
      have HK1 := Lib.hid hk1
      have hk1b : k1 ≤ s.size := by omega
      rw [e1] at b1 ⊢
      clear hF hk1 e1
      go_wp2_with fail
      refine hcall.out.mono ?_
      rintro e w1 ⟨v, rfl, hown, hb1⟩
      obtain ⟨ga, cc, rfl, _⟩ := rdS_shape hown.rd
      have HB1 := Lib.hid (hb.trans (hb1.mono hsz))
      clear hown hb1 hcall
      go_wp2_with fail
      go_roundw
      case rel => exact ⟨k + 1, a + F.length, by rw [← HK1.out], by omega, by go_num, hnx, HB1.out⟩
      case measure => simp [intOf] <;> omega
    · obtain rfl : k = s.size := by omega
      have b1 : decide ((s.size : Int) + 1 ≤ (s.size : Int)) = false := decide_eq_false (by omega)
      go_wp2_with fail
      go_ret
      exact ⟨ret_int (by rw [ha.out]), hb⟩
end Go.Proofs.Ytlmciomoimfajaa
