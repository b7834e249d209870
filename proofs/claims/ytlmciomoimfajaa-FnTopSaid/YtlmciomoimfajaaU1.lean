/- Contracts of l06At and of IsClosedUnderTurn in the program and in the reference, and the walk of its law. Conditions: strings of at most 2^20 bytes. -/
import Derived.Test.YtlmciomoimfajaaT7
import Derived.Test.YtlmciomoimfajaaT9
import Derived.Test.YtlmciomoimfajaaB2
namespace Go.Proofs.Ytlmciomoimfajaa
open Go.RowKit
set_option linter.unusedVariables false

theorem rdS_shape {w : World} {v : Value} {L : List ByteArray} (hrd : RdS w v L) : ∃ ga cc, v = .slice ga L.length cc ∧ ∀ (k : Nat) x, L[k]? = some x → ∃ g, ga = some ⟨g, 0, none⟩ ∧ w.cell? ⟨g, k, none⟩ = some (.string x) ∧ L.length ≤ cc := by
  rcases hrd with ⟨rfl, h0⟩ | ⟨g, cap, rfl, hcap, hc⟩
  · exact ⟨none, 0, by rw [h0]; rfl, fun k x hk => by rw [h0] at hk; simp at hk⟩
  · exact ⟨_, _, rfl, fun k x hk => ⟨g, rfl, hc k x hk, hcap⟩⟩
def clB (L : List ByteArray) : Bool := L.all fun f => memB L (rev f)
def clW (s : ByteArray) (n : Int) : Bool := wordL s.data.toList && inB n 1 60 && clB (facW s n.toNat)

set_option maxRecDepth 20000 in
set_option maxHeartbeats 2000000 in
theorem isClosed_i (s : ByteArray) (n : Int) (w : World) (hs : s.size ≤ 1073741000) :
    Calls Try.prog 68 #[.string s, .int .i64 n] w fun e w' => e = .returned (.bool (clW s n)) ∧ Below w.heap.size w w' := by
  have h1 := fun W => Lib.hid (isWord_c s W (by unfold maxLen; omega))
  have h2 := fun W => Lib.hid (within_c n 1 60 W)
  have hr0 : Hid (clW s n = (wordL s.data.toList && inB n 1 60 && clB (facW s n.toNat))) := rfl
  cases hw : wordL s.data.toList
  · rw [hw] at h1 hr0
    go_enter Try.func68, Try.ntmps68
    go_wp2_with fail
    refine (h1 _).out.mono ?_
    rintro e w' ⟨rfl, rfl⟩
    go_wp2_with fail
    go_ret
    exact ⟨ret_bool hr0.out.symm, Below.refl _ _⟩
  · have hs4 := wordL_size hw
    rw [hw] at h1 hr0
    cases hi : inB n 1 60
    · rw [hi] at h2 hr0
      go_enter Try.func68, Try.ntmps68
      go_wp2_with fail
      refine (h1 _).out.mono ?_
      rintro e w' ⟨rfl, rfl⟩
      go_wp2_with fail
      refine (h2 _).out.mono ?_
      rintro e w' ⟨rfl, rfl⟩
      go_wp2_with fail
      go_ret
      exact ⟨ret_bool hr0.out.symm, Below.refl _ _⟩
    · rw [hi] at h2 hr0
      have hn := inB_iff.1 hi
      obtain ⟨m, rfl⟩ : ∃ m : Nat, n = m := ⟨n.toNat, by omega⟩
      rw [Int.toNat_natCast] at hr0
      have hfc := fun W => Lib.hid (factorsOf_c s m W (by omega) (by omega))
      have hfl := facW_len s m
      have hfs := Lib.hid (fun x => @facW_size s x m)
      have hasc := Lib.hid (facW_asc s m)
      obtain ⟨L, hL⟩ : ∃ L, L = facW s m := ⟨_, rfl⟩
      rw [← hL] at hfc hfl hfs hasc hr0
      have hst : Hid ((L.drop 0).all (fun f => memB L (rev f)) = clW s m) := by rw [hr0.out]; rfl
      clear hL hr0 hi hw
      go_enter Try.func68, Try.ntmps68
      go_wp2_with fail
      refine (h1 _).out.mono ?_
      rintro e w' ⟨rfl, rfl⟩
      go_wp2_with fail
      refine (h2 _).out.mono ?_
      rintro e w' ⟨rfl, rfl⟩
      go_wp2_with fail
      refine (hfc _).out.mono ?_
      rintro e w1 ⟨v, rfl, ho, hb1⟩
      have HRD := Lib.hid ho.rd
      obtain ⟨ga, cc, rfl, hcell⟩ := rdS_shape ho.rd
      have HC := Lib.hid hcell
      obtain ⟨N, hN⟩ : ∃ N, N = L.length := ⟨_, rfl⟩
      have HN := Lib.hid hN
      rw [← hN] at hfl HRD ⊢
      clear hcell hN ho
      go_wp2_with fail
      go_loopw [23] (fun z wi => ∃ k : Nat, z = .int .i64 k ∧ k ≤ N ∧ Hid ((L.drop k).all (fun f => memB L (rev f)) = clW s m) ∧ Below w.heap.size w wi ∧ Below w1.heap.size w1 wi) (fun z _ => N - (intOf z).toNat)
      case atStart => exact ⟨0, rfl, by omega, hst, hb1, Below.refl _ _⟩
      case round =>
        obtain ⟨k, rfl, hk, hall, hbw, hbi⟩ := hrel
        by_cases hlk : k < N
        · obtain ⟨x, hx⟩ : ∃ x, L[k]? = some x := ⟨_, List.getElem?_eq_getElem (by rw [← HN.out]; exact hlk)⟩
          obtain ⟨g, rfl, cx0, hcap⟩ := HC.out k x hx
          rw [← HN.out] at hcap
          have cx : wr.cell? ⟨g, k, none⟩ = some (.string x) := by rw [hbi.cell (p := ⟨g, k, none⟩) (World.block_lt_of_cell? w1 _ cx0)]; exact cx0
          have hxs := hfs.out x (List.mem_of_getElem? hx)
          have hT := Lib.hid (turned_c x wr (by omega))
          have hdr : Hid ((memB L (rev x) && (L.drop (k + 1)).all (fun f => memB L (rev f))) = clW s m) := by
            have hkl : k < L.length := by rw [← HN.out]; exact hlk
            have e0 := List.drop_eq_getElem_cons hkl
            have e1 : L[k] = x := (List.getElem?_eq_some_iff.1 hx).2
            have e2 := hall.out
            rw [e0, e1, List.all_cons] at e2
            exact e2
          have b1 : (k : Int) < (N : Int) := by omega
          have hSr := fun W (hW : RdS W (.slice (some ⟨g, 0, none⟩) N cc) L) => Lib.hid (bsearch_c (.slice (some ⟨g, 0, none⟩) N cc) L (rev x) W hW hasc.out (by rw [← HN.out]; omega))
          clear hx cx0
          cases hm : memB L (rev x)
          · have hfin : Hid (clW s m = false) := by have := hdr.out; rw [hm, Bool.false_and] at this; exact this.symm
            rw [hm] at hSr
            clear hm
            go_wp2_with fail
            refine hT.out.mono ?_
            rintro e w2 ⟨rfl, hb2⟩
            have hrd2 := (HRD.out.below hbi).below hb2
            have hq := hSr _ hrd2
            clear hrd2
            go_wp2_with fail
            refine hq.out.mono ?_
            rintro e w3 ⟨rfl, d, rfl⟩
            go_wp2_with fail
            go_ret
            exact ⟨ret_bool hfin.out.symm, below_drewN (hbw.trans (hb2.mono hbw.size)) _⟩
          · have hnx : Hid ((L.drop (k + 1)).all (fun f => memB L (rev f)) = clW s m) := by have := hdr.out; rw [hm, Bool.true_and] at this; exact this
            rw [hm] at hSr
            clear hm
            go_wp2_with fail
            refine hT.out.mono ?_
            rintro e w2 ⟨rfl, hb2⟩
            have hrd2 := (HRD.out.below hbi).below hb2
            have hq := hSr _ hrd2
            clear hrd2
            go_wp2_with fail
            refine hq.out.mono ?_
            rintro e w3 ⟨rfl, d, rfl⟩
            go_wp2_with fail
            go_roundw
            case rel => exact ⟨k + 1, by go_num, by omega, hnx, below_drewN (hbw.trans (hb2.mono hbw.size)) _, below_drewN (hbi.trans (hb2.mono hbi.size)) _⟩
            case measure => simp [intOf] <;> omega
        · obtain rfl : k = N := by omega
          have hfin : Hid (clW s m = true) := by have := hall.out; rw [List.drop_of_length_le (by rw [← HN.out]; exact Nat.le_refl _)] at this; exact this.symm
          go_wp2
          go_ret
          exact ⟨ret_bool hfin.out.symm, hbw⟩

end Go.Proofs.Ytlmciomoimfajaa
