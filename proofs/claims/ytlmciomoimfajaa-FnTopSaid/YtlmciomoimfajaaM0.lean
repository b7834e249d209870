/- Rows that a call owns: read, kept behind later calls; contracts of eqIntS, markIntS, heldIntS of the laws. Conditions: short rows. -/
import Derived.Test.YtlmciomoimfajaaB0
import Derived.Deep.QuietTactic
import Derived.BigQuiet
namespace Go.Proofs.Ytlmciomoimfajaa
open Go.RowKit
set_option linter.unusedVariables false

theorem own_below {w w' : World} {B : Nat} {e : TypeId} {sz : Nat} {v : Value} {n : Nat} {xs : List Value} (h : w.ownsRow B e sz v n xs) (hb : Below w.heap.size w w') : w'.ownsRow B e sz v n xs := by
  refine h.kept (row := none) ⟨hb.os, hb.tape, hb.output, hb.size, fun k hk _ => hb.block k hk⟩ ?_
  cases v.ownBlock with
  | none => exact .inl rfl
  | some g => exact .inr (by simp)
theorem own_other {w w' : World} {B B' : Nat} {e : TypeId} {sz : Nat} {v u : Value} {n : Nat} {xs : List Value} {e' : TypeId} {sz' n' : Nat} {xs' : List Value} {w0 : World}
    (h : w.ownsRow B e sz v n xs) (h0 : w0.ownsRow B e sz v n xs) (h0s : w0.heap.size ≤ B') (hu : w.ownsRow B' e' sz' u n' xs') (hg : w.grownBy w' u.ownBlock) : w'.ownsRow B e sz v n xs := by
  refine h.kept hg ?_
  cases hv : v.ownBlock with
  | none => exact .inl rfl
  | some g =>
    refine .inr fun e => ?_
    have h1 := (h0.lt g hv).2
    have h2 := (hu.lt g e.symm).1
    omega
theorem below_of_grown {w w' : World} {B : Nat} {e : TypeId} {sz : Nat} {v : Value} {n : Nat} {xs : List Value} (h : w.ownsRow B e sz v n xs) (hg : w.grownBy w' v.ownBlock) {A : Nat} (hA : A ≤ B) (hs : A ≤ w.heap.size) : Below A w w' :=
  (Below.refl A w).grown hg hs fun k hk => Nat.le_trans hA (h.lt k hk).1

/-- a slice of numbers that can be read -/
def RdI (w : World) (v : Value) (l : List Int) : Prop :=
  (v = .slice none 0 0 ∧ l = []) ∨ ∃ g cap, v = .slice (some ⟨g, 0, none⟩) l.length cap ∧ l.length ≤ cap ∧ ∀ j x, l[j]? = some x → w.cell? ⟨g, j, none⟩ = some (.int .i64 x)
theorem OwnI.rd {w : World} {B : Nat} {v : Value} {l : List Int} (h : OwnI w B v l) : RdI w v l := by
  rcases h.2 with ⟨rfl, h0⟩ | ⟨g, cap, cur, rfl, hb, hg, hnc, hcm, hcs, htake⟩
  · exact .inl ⟨rfl, List.eq_nil_of_length_eq_zero h0⟩
  · refine .inr ⟨g, cap, rfl, hnc, fun j x hj => ?_⟩
    have hjl : j < l.length := (List.getElem?_eq_some_iff.1 hj).1
    have hc := World.ownsRow.cellAt (h : w.ownsRow B 3 1 _ _ _) j (by omega)
    rw [hc]; simp [iv, hj]
theorem RdI.drewN {w : World} {v : Value} {l : List Int} (h : RdI w v l) (d : Nat) : RdI (w.drewN d) v l := h
theorem RdI.below {w w' : World} {v : Value} {l : List Int} (h : RdI w v l) (hb : Below w.heap.size w w') : RdI w' v l := by
  rcases h with h | ⟨g, cap, rfl, hc, h⟩
  · exact .inl h
  · refine .inr ⟨g, cap, rfl, hc, fun j x hj => ?_⟩
    have := h j x hj
    rw [hb.cell (p := ⟨g, j, none⟩) (World.block_lt_of_cell? w _ this)]; exact this

def sameTo (a b : List Int) (k : Nat) : Prop := ∀ j, j < k → a[j]? = b[j]?
theorem same_end {a b : List Int} (hl : a.length = b.length) (h : sameTo a b a.length) : a = b := by
  apply List.ext_getElem?
  intro j
  by_cases hj : j < a.length
  · exact h j hj
  · rw [List.getElem?_eq_none (by omega), List.getElem?_eq_none (by omega)]
theorem same_succ {a b : List Int} {k : Nat} {x y : Int} (h : sameTo a b k) (ha : a[k]? = some x) (hb : b[k]? = some y) (he : x = y) : sameTo a b (k + 1) := by
  intro j hj
  rcases Nat.lt_succ_iff_lt_or_eq.1 hj with hj | rfl
  · exact h j hj
  · rw [ha, hb, he]
theorem same_no {a b : List Int} {k : Nat} {x y : Int} (ha : a[k]? = some x) (hb : b[k]? = some y) (he : ¬ x = y) : a ≠ b := by
  rintro rfl
  rw [ha] at hb
  exact he (Option.some.inj hb)

set_option maxHeartbeats 1000000 in
theorem eqIntS_c (u v : Value) (a b : List Int) (w : World) (hu : RdI w u a) (hv : RdI w v b) (ha : a.length ≤ 1073741824) (hb : b.length ≤ 1073741824) :
    Calls Try.prog 41 #[u, v] w fun e w' => e = .returned (.bool (decide (a = b))) ∧ ∃ d, w' = w.drewN d := by
  by_cases hl : a.length = b.length
  · rcases hu with ⟨rfl, rfl⟩ | ⟨g, c, rfl, hgc, hca⟩
    · have hb0 : b = [] := List.eq_nil_of_length_eq_zero hl.symm
      subst hb0
      have hr : Hid (decide (([] : List Int) = []) = true) := rfl
      rcases hv with ⟨rfl, _⟩ | ⟨g', c', rfl, _, _⟩
      all_goals
        go_enter Try.func41, Try.ntmps41
        go_wp2
        refine wp_loop_rounds 1 ?_
        rw [rounds_succ]
        go_wp2
        go_ret
        exact ⟨ret_bool hr.out.symm, 0, rfl⟩
    · rcases hv with ⟨rfl, rfl⟩ | ⟨g', c', rfl, hgc', hcb⟩
      · have ha0 : a = [] := List.eq_nil_of_length_eq_zero hl
        subst ha0
        have hr : Hid (decide (([] : List Int) = []) = true) := rfl
        go_enter Try.func41, Try.ntmps41
        go_wp2
        refine wp_loop_rounds 1 ?_
        rw [rounds_succ]
        go_wp2
        go_ret
        exact ⟨ret_bool hr.out.symm, 0, rfl⟩
      · rw [← hl] at hb hgc'
        obtain ⟨n, hn⟩ : ∃ n : Nat, n = a.length := ⟨_, rfl⟩
        rw [← hl, ← hn]
        rw [← hn] at ha hgc hgc'
        have hnb := Lib.hid (hn.trans hl)
        have hna := Lib.hid hn
        have CA := Lib.hid hca
        have CB := Lib.hid hcb
        clear hl hb hn hca hcb
        have hne : ((n : Int) != (n : Int)) = false := by simp
        go_enter Try.func41, Try.ntmps41
        go_wp2
        go_loopw [5] (fun i wr => ∃ k d : Nat, k ≤ n ∧ i = .int .i64 k ∧ Hid (sameTo a b k) ∧ wr = w.drewN d) (fun i _ => n - (intOf i).toNat)
        case atStart => exact ⟨0, 0, Nat.zero_le _, rfl, fun j hj => by omega, rfl⟩
        case round =>
          obtain ⟨k, d, hk, rfl, hsame, rfl⟩ := hrel
          by_cases hlt : k < n
          · obtain ⟨x, hx⟩ : ∃ x, a[k]? = some x := ⟨_, List.getElem?_eq_getElem (by rw [← hna.out]; exact hlt)⟩
            obtain ⟨y, hy⟩ : ∃ y, b[k]? = some y := ⟨_, List.getElem?_eq_getElem (by rw [← hnb.out]; exact hlt)⟩
            have c1 : (w.drewN d).cell? ⟨g, k, none⟩ = some (.int .i64 x) := CA.out k x hx
            have c2 : (w.drewN d).cell? ⟨g', k, none⟩ = some (.int .i64 y) := CB.out k y hy
            have c1' : w.cell? ⟨g, k, none⟩ = some (.int .i64 x) := c1
            have c2' : w.cell? ⟨g', k, none⟩ = some (.int .i64 y) := c2
            have HX := Lib.hid hx
            have HY := Lib.hid hy
            have b1 : (k : Int) < (n : Int) := by omega
            clear hx hy
            go_wp2
            go_quiet (fail)
            go_wp2
            · have he : (x != y) = true := by assumption
              have hf := Lib.hid (same_no HX.out HY.out (by simpa using he))
              go_ret
              exact ⟨ret_bool (by rw [decide_eq_false hf.out]), _, by first | rfl | rw [World.drewN_drewN]⟩
            · have he : (x != y) = false := by assumption
              go_roundw
              case rel => exact ⟨k + 1, _, by omega, by go_num, same_succ hsame.out HX.out HY.out (by simpa using he), rfl⟩
              case measure => simp [intOf] <;> omega
          · have hf : Hid (a = b) := same_end (hna.out.symm.trans hnb.out) (by rw [← hna.out, show n = k by omega]; exact hsame.out)
            go_wp2
            go_ret
            exact ⟨ret_bool (by rw [decide_eq_true hf.out]), _, rfl⟩
  · have hr : Hid (decide (a = b) = false) := decide_eq_false (fun e => hl (by rw [e]))
    rcases hu with ⟨rfl, rfl⟩ | ⟨g, c, rfl, _, _⟩ <;> rcases hv with ⟨rfl, rfl⟩ | ⟨g', c', rfl, _, _⟩
    · exact absurd rfl hl
    · have h2 : ((0 : Int) != (b.length : Int)) = true := bne_iff_ne.2 (fun e => hl (by rw [List.length_nil]; omega))
      clear hl
      go_enter Try.func41, Try.ntmps41
      go_wp2
      go_ret
      exact ⟨ret_bool hr.out.symm, 0, rfl⟩
    · have h2 : ((a.length : Int) != (0 : Int)) = true := bne_iff_ne.2 (fun e => hl (by rw [List.length_nil]; omega))
      clear hl
      go_enter Try.func41, Try.ntmps41
      go_wp2
      go_ret
      exact ⟨ret_bool hr.out.symm, 0, rfl⟩
    · have h2 : ((a.length : Int) != (b.length : Int)) = true := bne_iff_ne.2 (fun e => hl (by omega))
      clear hl
      go_enter Try.func41, Try.ntmps41
      go_wp2
      go_ret
      exact ⟨ret_bool hr.out.symm, 0, rfl⟩

/-- the numbers m, m + 1, .. -/
def iota (m n : Nat) : List Int := (List.range n).map fun j => ((m + j : Nat) : Int)
theorem iota_len (m n : Nat) : (iota m n).length = n := by simp [iota]
theorem iota_get {m n k : Nat} (h : k < n) : (iota m n)[k]? = some ((m + k : Nat) : Int) := by simp [iota, h]
/-- what a marked row holds behind k rounds -/
def markRow (m : Nat) (l : List Int) (k : Nat) : List Int := iota m k ++ l.drop k
theorem markRow_len (m : Nat) (l : List Int) (k : Nat) (h : k ≤ l.length) : (markRow m l k).length = l.length := by simp [markRow, iota_len]; omega
theorem markRow_zero (m : Nat) (l : List Int) : markRow m l 0 = l := by simp [markRow, iota]
theorem markRow_end (m : Nat) (l : List Int) : markRow m l l.length = iota m l.length := by simp [markRow]
theorem markRow_step (m : Nat) (l : List Int) (k : Nat) (h : k < l.length) : (markRow m l k).set k ((m + k : Nat) : Int) = markRow m l (k + 1) := by
  unfold markRow
  rw [List.drop_eq_getElem_cons h, List.set_append_right _ _ (by rw [iota_len]; exact Nat.le_refl _), iota_len, Nat.sub_self, List.set_cons_zero]
  simp [iota, List.range_succ]
theorem iv_set (l : List Int) (j : Nat) (x : Int) : (iv l).set j (.int .i64 x) = iv (l.set j x) := by simp [iv, List.map_set]
theorem mark_cell {w : World} {B g cap m : Nat} {l : List Int} {k : Nat} (hk : k < l.length) (h : OwnI w B (.slice (some ⟨g, 0, none⟩) l.length cap) (markRow m l k)) :
    (∃ x, w.cell? ⟨g, k, none⟩ = some x) ∧ w.frozen? ⟨g, k, none⟩ = false := by
  have hl := markRow_len m l k (by omega)
  unfold OwnI at h
  rw [hl] at h
  refine ⟨?_, h.frozenAt _⟩
  have hc := h.cellAt k (by omega)
  have hlt : k < (iv (markRow m l k)).length := by rw [iv_len, hl]; exact hk
  exact ⟨_, hc.trans (List.getElem?_eq_getElem hlt)⟩
theorem mark_step {w : World} {B g cap m : Nat} {l : List Int} {k : Nat} (hk : k < l.length) (h : OwnI w B (.slice (some ⟨g, 0, none⟩) l.length cap) (markRow m l k)) (x : Int) (hx : x = ((m + k : Nat) : Int)) :
    OwnI (w.setCell ⟨g, k, none⟩ (.int .i64 x)) B (.slice (some ⟨g, 0, none⟩) l.length cap) (markRow m l (k + 1)) ∧ w.grownBy (w.setCell ⟨g, k, none⟩ (.int .i64 x)) (some g) := by
  have hl := markRow_len m l k (by omega)
  have hl' := markRow_len m l (k + 1) (by omega)
  unfold OwnI at h ⊢
  rw [hl] at h
  rw [hl']
  have := h.stored k (.int .i64 x)
  rw [iv_set, hx, markRow_step m l k hk] at this
  rw [hx]
  exact this
theorem grown_trans {w w1 w2 : World} {row : Option Nat} (h : w.grownBy w1 row) (k : w1.grownBy w2 row) : w.grownBy w2 row :=
  ⟨k.os.trans h.os, k.tape.trans h.tape, k.output.trans h.output, Nat.le_trans h.size k.size, fun i hi hne => (k.block i (Nat.lt_of_lt_of_le hi h.size) hne).trans (h.block i hi hne)⟩

set_option maxHeartbeats 1000000 in
theorem markIntS_c (v : Value) (l : List Int) (m B : Nat) (w : World) (h : OwnI w B v l) (hl : l.length ≤ 1073741824) (hm : m ≤ 1073741824) :
    Calls Try.prog 45 #[v, .int .i64 (m : Int)] w fun e w' => e = .returned (.int .i64 ((m + l.length : Nat) : Int)) ∧ OwnI w' B v (iota m l.length) ∧ w.grownBy w' v.ownBlock := by
  by_cases h0 : l.length = 0
  · have hr : Hid (OwnI w B v (iota m l.length)) := by
      have : l = [] := List.eq_nil_of_length_eq_zero h0
      subst this; exact h
    have hv : ∃ pa ca, v = .slice pa l.length ca := by
      rcases h.2 with ⟨rfl, _⟩ | ⟨g, cap, cur, rfl, _⟩
      · exact ⟨none, 0, by rw [h0]⟩
      · exact ⟨_, _, rfl⟩
    obtain ⟨pa, ca, rfl⟩ := hv
    rw [h0] at hr ⊢
    clear h h0
    go_enter Try.func45, Try.ntmps45
    go_wp2
    refine wp_loop_rounds 1 ?_
    rw [rounds_succ]
    go_wp2
    go_ret
    exact ⟨ret_int (by simp), hr.out, World.grownBy.refl _ _⟩
  · rcases h.2 with ⟨rfl, h1⟩ | ⟨g, cap, cur, rfl, hb, hg, hnc, hcm, hcs, htake⟩
    · exact absurd h1 h0
    · have hst : Hid (OwnI w B (.slice (some ⟨g, 0, none⟩) l.length cap) (markRow m l 0)) := by rw [markRow_zero]; exact h
      obtain ⟨n, hn⟩ : ∃ n : Nat, n = l.length := ⟨_, rfl⟩
      have HN := Lib.hid hn
      rw [← hn] at hst hl hnc h0 ⊢
      clear h hg hcm hcs htake hn
      go_enter Try.func45, Try.ntmps45
      go_wp2
      go_loopw [1, 5] (fun a i wr => ∃ k : Nat, k ≤ n ∧ i = .int .i64 k ∧ a = .int .i64 ((m : Int) + k) ∧ Hid (OwnI wr B (.slice (some ⟨g, 0, none⟩) n cap) (markRow m l k)) ∧ w.grownBy wr (some g)) (fun _ i _ => n - (intOf i).toNat)
      case atStart => exact ⟨0, Nat.zero_le _, rfl, by simp, hst, World.grownBy.refl _ _⟩
      case round =>
        obtain ⟨k, hk, rfl, rfl, hown, hgr⟩ := hrel
        by_cases hlt : k < n
        · have ho := hown.out
          rw [HN.out] at ho
          obtain ⟨⟨x, hx⟩, hf⟩ := mark_cell (by rw [← HN.out]; exact hlt) ho
          have hst2 := Lib.hid (mark_step (by rw [← HN.out]; exact hlt) ho ((m : Int) + k) (by omega))
          clear ho
          go_wp2
          go_roundw
          case rel => exact ⟨k + 1, by omega, by go_num, by go_num, by have := hst2.out.1; rw [← HN.out] at this; exact this, grown_trans hgr hst2.out.2⟩
          case measure => simp [intOf] <;> omega
        · have hkn : k = n := by omega
          have hfin : Hid (OwnI wr B (.slice (some ⟨g, 0, none⟩) n cap) (iota m n)) := by
            have := hown.out
            rw [hkn, HN.out, markRow_end, ← HN.out] at this; exact this
          go_wp2
          go_ret
          exact ⟨ret_int (by omega), hfin.out, hgr⟩

set_option maxHeartbeats 1000000 in
theorem heldIntS_c (v : Value) (m n : Nat) (w : World) (h : RdI w v (iota m n)) (hn : n ≤ 1073741824) (hm : m ≤ 1073741824) :
    Calls Try.prog 103 #[v, .int .i64 (m : Int)] w fun e w' => e = .returned (.int .i64 ((m + n : Nat) : Int)) ∧ w = w' := by
  rcases h with ⟨rfl, h0⟩ | ⟨g, cap, rfl, hcap, hc⟩
  · have hn0 : n = 0 := by have := iota_len m n; rw [h0] at this; exact this.symm
    subst hn0
    clear h0
    go_enter Try.func103, Try.ntmps103
    go_wp2
    refine wp_loop_rounds 1 ?_
    rw [rounds_succ]
    go_wp2
    go_ret
    exact ⟨ret_int (by simp), rfl⟩
  · rw [iota_len] at hcap ⊢
    have HC := Lib.hid hc
    clear hc
    go_enter Try.func103, Try.ntmps103
    go_wp2
    go_loop [1, 5] (fun a i => ∃ k : Nat, k ≤ n ∧ i = .int .i64 k ∧ a = .int .i64 ((m : Int) + k)) (fun _ i => n - (intOf i).toNat)
    case atStart => exact ⟨0, Nat.zero_le _, rfl, by simp⟩
    case round =>
      obtain ⟨k, hk, rfl, rfl⟩ := hrel
      by_cases hlt : k < n
      · have c1 : w.cell? ⟨g, k, none⟩ = some (.int .i64 ((m : Int) + (k : Int))) := HC.out k _ (iota_get hlt)
        have c2 : ((m : Int) + (k : Int) != (m : Int) + (k : Int)) = false := by simp
        go_wp2
        go_round
        case rel => exact ⟨k + 1, by omega, by go_num, by go_num⟩
        case measure => simp [intOf] <;> omega
      · go_wp2
        go_ret
        exact ⟨ret_int (by omega), rfl⟩
end Go.Proofs.Ytlmciomoimfajaa
