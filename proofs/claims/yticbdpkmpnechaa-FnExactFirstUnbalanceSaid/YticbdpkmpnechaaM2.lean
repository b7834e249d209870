/- Rows of strings: read; contracts of eqStringS, markText, markStringS, heldStringS of the laws; what a function that makes a slice of strings leaves (RetS). Conditions: short rows. -/
import Derived.Test.YticbdpkmpnechaaM0
import Derived.Lib.QuietBelow
namespace Go.Proofs.Yticbdpkmpnechaa
open Go.RowKit Go.Sort
set_option linter.unusedVariables false

/-- the call returns a slice that it made (or nil), which holds L -/
def RetS (L : List ByteArray) (w : World) (e : Ending) (w' : World) : Prop := ∃ v, e = .returned v ∧ OwnS w' w.heap.size v L ∧ Below w.heap.size w w'
theorem retS_nil (w w' : World) (L : List ByteArray) (h : L = []) (hb : Below w.heap.size w w') : RetS L w (.returned (.slice none 0 0)) w' :=
  ⟨_, rfl, by rw [h]; exact World.ownsRow_nil _ _ _ _, hb⟩
theorem retS_mk {w w' : World} {v : Value} {l L : List ByteArray} (hown : OwnS w' w.heap.size v l) (h : l = L) (hb : Below w.heap.size w w') : RetS L w (.returned v) w' := ⟨_, rfl, by rw [← h]; exact hown, hb⟩

/-- a slice of strings that can be read -/
def RdS (w : World) (v : Value) (l : List ByteArray) : Prop :=
  (v = .slice none 0 0 ∧ l = []) ∨ ∃ g cap, v = .slice (some ⟨g, 0, none⟩) l.length cap ∧ l.length ≤ cap ∧ ∀ j x, l[j]? = some x → w.cell? ⟨g, j, none⟩ = some (.string x)
theorem OwnS.rd {w : World} {B : Nat} {v : Value} {l : List ByteArray} (h : OwnS w B v l) : RdS w v l := by
  rcases h.2 with ⟨rfl, h0⟩ | ⟨g, cap, cur, rfl, hb, hg, hnc, hcm, hcs, htake⟩
  · exact .inl ⟨rfl, List.eq_nil_of_length_eq_zero h0⟩
  · refine .inr ⟨g, cap, rfl, hnc, fun j x hj => ?_⟩
    have hjl : j < l.length := (List.getElem?_eq_some_iff.1 hj).1
    have hc := World.ownsRow.cellAt (h : w.ownsRow B 9 1 _ _ _) j (by omega)
    rw [hc]; simp [sv, hj]
theorem RdS.below {w w' : World} {v : Value} {l : List ByteArray} (h : RdS w v l) (hb : Below w.heap.size w w') : RdS w' v l := by
  rcases h with h | ⟨g, cap, rfl, hc, h⟩
  · exact .inl h
  · refine .inr ⟨g, cap, rfl, hc, fun j x hj => ?_⟩
    have := h j x hj
    rw [hb.cell (p := ⟨g, j, none⟩) (World.block_lt_of_cell? w _ this)]; exact this

def sameToS (a b : List ByteArray) (k : Nat) : Prop := ∀ j, j < k → a[j]? = b[j]?
theorem sameS_end {a b : List ByteArray} (hl : a.length = b.length) (h : sameToS a b a.length) : a = b := by
  apply List.ext_getElem?
  intro j
  by_cases hj : j < a.length
  · exact h j hj
  · rw [List.getElem?_eq_none (by omega), List.getElem?_eq_none (by omega)]
theorem sameS_succ {a b : List ByteArray} {k : Nat} {x y : ByteArray} (h : sameToS a b k) (ha : a[k]? = some x) (hb : b[k]? = some y) (he : x = y) : sameToS a b (k + 1) := by
  intro j hj
  rcases Nat.lt_succ_iff_lt_or_eq.1 hj with hj | rfl
  · exact h j hj
  · rw [ha, hb, he]
theorem sameS_no {a b : List ByteArray} {k : Nat} {x y : ByteArray} (ha : a[k]? = some x) (hb : b[k]? = some y) (he : ¬ x = y) : a ≠ b := by
  rintro rfl
  rw [ha] at hb
  exact he (Option.some.inj hb)
theorem str_beq {x y : ByteArray} (h : (x.toList == y.toList) = true) : x = y := by
  rw [Lib.toList_data, Lib.toList_data, beq_iff_eq] at h; exact str_inj h
theorem str_bne {x y : ByteArray} (h : (x.toList == y.toList) = false) : ¬ x = y := by
  rintro rfl
  simp at h

/-- are two rows the same -/
def cBs (a b : List ByteArray) : Bool := decide (a = b)
set_option maxHeartbeats 1000000 in
theorem eqStringS_c (u v : Value) (a b : List ByteArray) (w : World) (hu : RdS w u a) (hv : RdS w v b) (ha : a.length ≤ 1073741824) (hb : b.length ≤ 1073741824) :
    Calls Try.prog 32 #[u, v] w fun e w' => e = .returned (.bool (cBs a b)) ∧ ∃ d, w' = w.drewN d := by
  by_cases hl : a.length = b.length
  · rcases hu with ⟨rfl, rfl⟩ | ⟨g, c, rfl, hgc, hca⟩
    · have hb0 : b = [] := List.eq_nil_of_length_eq_zero hl.symm
      subst hb0
      have hr : Hid (cBs ([] : List ByteArray) [] = true) := by simp [cBs, Hid]
      rcases hv with ⟨rfl, _⟩ | ⟨g', c', rfl, _, _⟩
      all_goals
        go_enter Try.func32, Try.ntmps32
        go_wp2
        refine wp_loop_rounds 1 ?_
        rw [rounds_succ]
        go_wp2
        go_ret
        exact ⟨ret_bool hr.out.symm, 0, rfl⟩
    · rcases hv with ⟨rfl, rfl⟩ | ⟨g', c', rfl, hgc', hcb⟩
      · have ha0 : a = [] := List.eq_nil_of_length_eq_zero hl
        subst ha0
        have hr : Hid (cBs ([] : List ByteArray) [] = true) := by simp [cBs, Hid]
        go_enter Try.func32, Try.ntmps32
        go_wp2
        refine wp_loop_rounds 1 ?_
        rw [rounds_succ]
        go_wp2
        go_ret
        exact ⟨ret_bool hr.out.symm, 0, rfl⟩
      · rw [← hl] at hb hgc'
        obtain ⟨n, hn⟩ : ∃ n : Nat, n = a.length := ⟨_, rfl⟩
        rw [← hl, ← hn]
        rw [← hn] at ha hgc hgc'
        have hnb := Lib.hid (hn.trans hl)
        have hna := Lib.hid hn
        have CA := Lib.hid hca
        have CB := Lib.hid hcb
        clear hl hb hn hca hcb
        have hne : ((n : Int) != (n : Int)) = false := by simp
        go_enter Try.func32, Try.ntmps32
        go_wp2
        go_loopw [5] (fun i wr => ∃ k d : Nat, k ≤ n ∧ i = .int .i64 k ∧ Hid (sameToS a b k) ∧ wr = w.drewN d) (fun i _ => n - (intOf i).toNat)
        case atStart => exact ⟨0, 0, Nat.zero_le _, rfl, fun j hj => by omega, rfl⟩
        case round =>
          obtain ⟨k, d, hk, rfl, hsame, rfl⟩ := hrel
          by_cases hlt : k < n
          · obtain ⟨x, hx⟩ : ∃ x, a[k]? = some x := ⟨_, List.getElem?_eq_getElem (by rw [← hna.out]; exact hlt)⟩
            obtain ⟨y, hy⟩ : ∃ y, b[k]? = some y := ⟨_, List.getElem?_eq_getElem (by rw [← hnb.out]; exact hlt)⟩
            have c1 : (w.drewN d).cell? ⟨g, k, none⟩ = some (.string x) := CA.out k x hx
            have c2 : (w.drewN d).cell? ⟨g', k, none⟩ = some (.string y) := CB.out k y hy
            have c1' : w.cell? ⟨g, k, none⟩ = some (.string x) := c1
            have c2' : w.cell? ⟨g', k, none⟩ = some (.string y) := c2
            have HX := Lib.hid hx
            have HY := Lib.hid hy
            have b1 : (k : Int) < (n : Int) := by omega
            clear hx hy
            cases he : (x.toList == y.toList)
            · have hf : Hid (cBs a b = false) := decide_eq_false (sameS_no HX.out HY.out (str_bne he))
              go_wp2
              go_quiet (fail)
              go_wp2
              go_ret
              exact ⟨ret_bool hf.out.symm, _, by first | rfl | rw [World.drewN_drewN]⟩
            · have hnx := Lib.hid (sameS_succ hsame.out HX.out HY.out (str_beq he))
              go_wp2
              go_quiet (fail)
              go_wp2
              go_roundw
              case rel => exact ⟨k + 1, _, by omega, by go_num, hnx, rfl⟩
              case measure => simp [intOf] <;> omega
          · have hf : Hid (cBs a b = true) := decide_eq_true (sameS_end (hna.out.symm.trans hnb.out) (by rw [← hna.out, show n = k by omega]; exact hsame.out))
            go_wp2
            go_ret
            exact ⟨ret_bool hf.out.symm, _, rfl⟩
  · have hr : Hid (cBs a b = false) := decide_eq_false (fun e => hl (by rw [e]))
    rcases hu with ⟨rfl, rfl⟩ | ⟨g, c, rfl, _, _⟩ <;> rcases hv with ⟨rfl, rfl⟩ | ⟨g', c', rfl, _, _⟩
    · exact absurd rfl hl
    · have h2 : ((0 : Int) != (b.length : Int)) = true := bne_iff_ne.2 (fun e => hl (by rw [List.length_nil]; omega))
      clear hl
      go_enter Try.func32, Try.ntmps32
      go_wp2
      go_ret
      exact ⟨ret_bool hr.out.symm, 0, rfl⟩
    · have h2 : ((a.length : Int) != (0 : Int)) = true := bne_iff_ne.2 (fun e => hl (by rw [List.length_nil]; omega))
      clear hl
      go_enter Try.func32, Try.ntmps32
      go_wp2
      go_ret
      exact ⟨ret_bool hr.out.symm, 0, rfl⟩
    · have h2 : ((a.length : Int) != (b.length : Int)) = true := bne_iff_ne.2 (fun e => hl (by omega))
      clear hl
      go_enter Try.func32, Try.ntmps32
      go_wp2
      go_ret
      exact ⟨ret_bool hr.out.symm, 0, rfl⟩

/-- the mark's digits, ahead of 'acc' -/
def mtGo : Nat → Nat → List UInt8 → List UInt8
  | 0, _, acc => acc
  | f + 1, k, acc => if k = 0 then acc else mtGo f (k / 10) (UInt8.ofNat (48 + k % 10) :: acc)
def mtS (k : Nat) : ByteArray := if k = 0 then ⟨#[109, 48]⟩ else St (109 :: mtGo (k + 1) k [])
theorem mt_zero (f : Nat) (acc : List UInt8) : mtGo f 0 acc = acc := by cases f <;> simp [mtGo]
theorem mt_step {f k : Nat} {acc : List UInt8} (hf : k < f) (hk : k ≠ 0) : mtGo f k acc = mtGo (f - 1) (k / 10) (UInt8.ofNat (48 + k % 10) :: acc) := by
  obtain ⟨g, rfl⟩ : ∃ g, f = g + 1 := ⟨f - 1, by omega⟩
  rw [mtGo, if_neg hk]; rfl

theorem lit_own (w : World) (c : UInt8) : OwnB (w.alloc (.cells #[.int .u8 (c.toNat : Int)] 5)) w.heap.size (.slice (some ⟨w.heap.size, 0, none⟩) 1 1) [c] :=
  ⟨rfl, .inr ⟨w.heap.size, 1, _, rfl, Nat.le_refl _, heap_alloc_new w _, Nat.le_refl _, by unfold maxLen; omega, rfl, rfl⟩⟩
theorem st_cons (c : UInt8) (l : List UInt8) : St [c] ++ St l = St (c :: l) := by apply str_inj; rw [ByteArray.data_append, Array.toList_append]; rfl

set_option maxHeartbeats 1000000 in
theorem markText_c (k : Nat) (w : World) (hk : k ≤ 1073741824) :
    Calls Try.prog 65 #[.int .i64 (k : Int)] w fun e w' => e = .returned (.string (mtS k)) ∧ Below w.heap.size w w' := by
  by_cases h0 : k = 0
  · subst h0
    have hr : Hid (mtS 0 = ⟨#[109, 48]⟩) := rfl
    go_enter Try.func65, Try.ntmps65
    go_wp2
    go_ret
    exact ⟨ret_str hr.out.symm, Below.refl _ _⟩
  · obtain ⟨R, hR⟩ : ∃ R, R = mtGo (k + 1) k [] := ⟨_, rfl⟩
    have hr : Hid (mtS k = St (109 :: R)) := by unfold Hid mtS; rw [if_neg h0, hR]
    have hst : Hid (mtGo (k + 1) k [] = R) := hR.symm
    have hp : (1 : Int) ≤ (k : Int) := by omega
    have hp0 : decide ((k : Int) ≤ 0) = false := decide_eq_false (by omega)
    clear hR
    go_enter Try.func65, Try.ntmps65
    go_wp2
    go_loopw [0, 3] (fun kk o wr => ∃ (x f : Nat) (acc : List UInt8), x < f ∧ acc.length + x ≤ k ∧ kk = .int .i64 x ∧ o = .string (St acc) ∧ Hid (mtGo f x acc = R) ∧ Below w.heap.size w wr) (fun kk _ _ => (intOf kk).toNat)
    case atStart => exact ⟨k, k + 1, [], by omega, by simp, rfl, rfl, hst, Below.refl _ _⟩
    case round =>
      obtain ⟨x, f, acc, hxf, hacc, rfl, rfl, hg, hb⟩ := hrel
      have hsa := St_size acc
      by_cases hx : x = 0
      · subst hx
        have hfin : Hid (R = acc) := by unfold Hid; rw [← hg.out]; exact mt_zero _ _
        have hs1 := st_cons 109 acc
        have hs2 : (⟨#[109]⟩ : ByteArray) = St [109] := rfl
        have hs3 : (St [109]).size = 1 := rfl
        rw [hfin.out] at hr
        go_wp2
        go_ret
        exact ⟨ret_str (by rw [hr.out]), hb⟩
      · obtain ⟨r, hrr⟩ : ∃ r : Nat, r = x % 10 := ⟨_, rfl⟩
        obtain ⟨q, hq⟩ : ∃ q : Nat, q = x / 10 := ⟨_, rfl⟩
        obtain ⟨c, hc⟩ : ∃ c : UInt8, c = UInt8.ofNat (48 + r) := ⟨_, rfl⟩
        have hrl : r < 10 := by omega
        have hql : q < x := by omega
        have hcn : c.toNat = 48 + r := by rw [hc, UInt8.toNat_ofNat']; omega
        have hnx : Hid (mtGo (f - 1) q (c :: acc) = R) := by unfold Hid; rw [← hg.out, mt_step hxf hx, ← hrr, ← hq, ← hc]
        have e1 : (x : Int).tmod 10 = (r : Int) := by rw [hrr, Int.tmod_eq_emod_of_nonneg (by omega)]; exact (Int.natCast_emod _ _).symm
        have e1' : (x : Int) % 10 = (r : Int) := by rw [hrr]; exact (Int.natCast_emod _ _).symm
        have e2 : (x : Int).tdiv 10 = (q : Int) := by rw [hq, Int.tdiv_eq_ediv_of_nonneg (by omega)]; exact (Int.natCast_ediv _ _).symm
        have e2' : (x : Int) / 10 = (q : Int) := by rw [hq]; exact (Int.natCast_ediv _ _).symm
        have e3 : (48 : Int) + (r : Int) = (c.toNat : Int) := by omega
        have cb : c.toNat ≤ 255 := by omega
        have e4 : IntKind.i64.wrap (c.toNat : Int) = (c.toNat : Int) := IntWalk.i64_in _ (by omega)
        have e5 : IntKind.u8.wrap (c.toNat : Int) = (c.toNat : Int) := IntWalk.u8_in _ (by omega)
        have e6 : IntKind.i64.wrap (q : Int) = (q : Int) := IntWalk.i64_in _ (by omega)
        have hcv := fun W => conv_own (lit_own W c)
        have hs1 := st_cons c acc
        have hs3 : (St [c]).size = 1 := rfl
        have hp1 : decide (0 < (x : Int)) = true := decide_eq_true (by omega)
        clear hrr hq hc hcn
        go_wp2
        go_roundw
        case rel => exact ⟨q, f - 1, c :: acc, by omega, by simp <;> omega, rfl, rfl, hnx, hb.alloc (by exact hb.size) _⟩
        case measure => simp [intOf] <;> omega
/-- the marks m, m + 1, .. -/
def mkS (m n : Nat) : List ByteArray := (List.range n).map fun j => mtS (m + j)
theorem mkS_len (m n : Nat) : (mkS m n).length = n := by simp [mkS]
theorem mkS_get {m n k : Nat} (h : k < n) : (mkS m n)[k]? = some (mtS (m + k)) := by simp [mkS, h]
def markRowS (m : Nat) (l : List ByteArray) (k : Nat) : List ByteArray := mkS m k ++ l.drop k
theorem markRowS_len (m : Nat) (l : List ByteArray) (k : Nat) (h : k ≤ l.length) : (markRowS m l k).length = l.length := by simp [markRowS, mkS_len]; omega
theorem markRowS_zero (m : Nat) (l : List ByteArray) : markRowS m l 0 = l := by simp [markRowS, mkS]
theorem markRowS_end (m : Nat) (l : List ByteArray) : markRowS m l l.length = mkS m l.length := by simp [markRowS]
theorem markRowS_step (m : Nat) (l : List ByteArray) (k : Nat) (h : k < l.length) : (markRowS m l k).set k (mtS (m + k)) = markRowS m l (k + 1) := by
  unfold markRowS
  rw [List.drop_eq_getElem_cons h, List.set_append_right _ _ (by rw [mkS_len]; exact Nat.le_refl _), mkS_len, Nat.sub_self, List.set_cons_zero]
  simp [mkS, List.range_succ]
theorem sv_set (l : List ByteArray) (j : Nat) (x : ByteArray) : (sv l).set j (.string x) = sv (l.set j x) := by simp [sv, List.map_set]
theorem markS_cell {w : World} {B g cap m : Nat} {l : List ByteArray} {k : Nat} (hk : k < l.length) (h : OwnS w B (.slice (some ⟨g, 0, none⟩) l.length cap) (markRowS m l k)) :
    (∃ x, w.cell? ⟨g, k, none⟩ = some x) ∧ w.frozen? ⟨g, k, none⟩ = false := by
  have hl := markRowS_len m l k (by omega)
  unfold OwnS at h
  rw [hl] at h
  refine ⟨?_, h.frozenAt _⟩
  have hc := h.cellAt k (by omega)
  have hlt : k < (sv (markRowS m l k)).length := by rw [sv_len, hl]; exact hk
  exact ⟨_, hc.trans (List.getElem?_eq_getElem hlt)⟩
theorem markS_step {w : World} {B g cap m : Nat} {l : List ByteArray} {k : Nat} (hk : k < l.length) (h : OwnS w B (.slice (some ⟨g, 0, none⟩) l.length cap) (markRowS m l k)) :
    OwnS (w.setCell ⟨g, k, none⟩ (.string (mtS (m + k)))) B (.slice (some ⟨g, 0, none⟩) l.length cap) (markRowS m l (k + 1)) ∧ w.grownBy (w.setCell ⟨g, k, none⟩ (.string (mtS (m + k)))) (some g) := by
  have hl := markRowS_len m l k (by omega)
  have hl' := markRowS_len m l (k + 1) (by omega)
  unfold OwnS at h ⊢
  rw [hl] at h
  rw [hl']
  have := h.stored k (.string (mtS (m + k)))
  rw [sv_set, markRowS_step m l k hk] at this
  exact this
theorem grown_below {w w' : World} {row : Option Nat} (hb : Below w.heap.size w w') : w.grownBy w' row := ⟨hb.os, hb.tape, hb.output, hb.size, fun k hk _ => hb.block k hk⟩

set_option maxHeartbeats 1000000 in
theorem markStringS_c (v : Value) (l : List ByteArray) (m B : Nat) (w : World) (h : OwnS w B v l) (hl : l.length ≤ 536870912) (hm : m ≤ 536870912) :
    Calls Try.prog 33 #[v, .int .i64 (m : Int)] w fun e w' => e = .returned (.int .i64 ((m + l.length : Nat) : Int)) ∧ OwnS w' B v (mkS m l.length) ∧ w.grownBy w' v.ownBlock := by
  by_cases h0 : l.length = 0
  · have hr : Hid (OwnS w B v (mkS m l.length)) := by
      have : l = [] := List.eq_nil_of_length_eq_zero h0
      subst this; exact h
    have hv : ∃ pa ca, v = .slice pa l.length ca := by
      rcases h.2 with ⟨rfl, _⟩ | ⟨g, cap, cur, rfl, _⟩
      · exact ⟨none, 0, by rw [h0]⟩
      · exact ⟨_, _, rfl⟩
    obtain ⟨pa, ca, rfl⟩ := hv
    rw [h0] at hr ⊢
    clear h h0
    go_enter Try.func33, Try.ntmps33
    go_wp2
    refine wp_loop_rounds 1 ?_
    rw [rounds_succ]
    go_wp2
    go_ret
    exact ⟨ret_int (by simp), hr.out, World.grownBy.refl _ _⟩
  · rcases h.2 with ⟨rfl, h1⟩ | ⟨g, cap, cur, rfl, hb, hg, hnc, hcm, hcs, htake⟩
    · exact absurd h1 h0
    · have hst : Hid (OwnS w B (.slice (some ⟨g, 0, none⟩) l.length cap) (markRowS m l 0)) := by rw [markRowS_zero]; exact h
      obtain ⟨n, hn⟩ : ∃ n : Nat, n = l.length := ⟨_, rfl⟩
      have HN := Lib.hid hn
      rw [← hn] at hst hl hnc h0 ⊢
      clear h hg hcm hcs htake hn
      go_enter Try.func33, Try.ntmps33
      go_wp2
      go_loopw [1, 5] (fun a i wr => ∃ k : Nat, k ≤ n ∧ i = .int .i64 k ∧ a = .int .i64 ((m + k : Nat) : Int) ∧ Hid (OwnS wr B (.slice (some ⟨g, 0, none⟩) n cap) (markRowS m l k)) ∧ w.grownBy wr (some g)) (fun _ i _ => n - (intOf i).toNat)
      case atStart => exact ⟨0, Nat.zero_le _, rfl, by simp, hst, World.grownBy.refl _ _⟩
      case round =>
        obtain ⟨k, hk, rfl, rfl, hown, hgr⟩ := hrel
        by_cases hlt : k < n
        · obtain ⟨y, hy⟩ : ∃ y : Nat, y = m + k := ⟨_, rfl⟩
          have hmt := fun W => Lib.hid (markText_c y W (by omega))
          rw [← hy]
          have HY := Lib.hid hy
          have hyb : y ≤ 1073741824 := by omega
          clear hy
          go_wp2_with fail
          refine (hmt _).out.mono ?_
          rintro e w1 ⟨rfl, hb1⟩
          have ho := own_below hown.out hb1
          have ho1 : OwnS w1 B (.slice (some ⟨g, 0, none⟩) l.length cap) (markRowS m l k) := by rw [← HN.out]; exact ho
          have hg1 := Lib.hid (grown_trans hgr (grown_below (row := some g) hb1))
          obtain ⟨⟨x, hx⟩, hf⟩ := markS_cell (by rw [← HN.out]; exact hlt) ho1
          have hst2 := Lib.hid (markS_step (by rw [← HN.out]; exact hlt) ho1)
          rw [← HY.out, ← HN.out] at hst2
          clear ho ho1
          go_wp2_with fail
          go_roundw
          case rel => exact ⟨k + 1, by omega, by go_num, by have := HY.out; go_num, hst2.out.1, grown_trans hg1.out hst2.out.2⟩
          case measure => simp [intOf] <;> omega
        · have hkn : k = n := by omega
          have hfin : Hid (OwnS wr B (.slice (some ⟨g, 0, none⟩) n cap) (mkS m n)) := by
            have := hown.out
            rw [hkn, HN.out, markRowS_end, ← HN.out] at this; exact this
          go_wp2
          go_ret
          exact ⟨ret_int (by omega), hfin.out, hgr⟩

set_option maxHeartbeats 1000000 in
theorem heldStringS_c (v : Value) (m n : Nat) (w : World) (h : RdS w v (mkS m n)) (hn : n ≤ 536870912) (hm : m ≤ 536870912) :
    Calls Try.prog 34 #[v, .int .i64 (m : Int)] w fun e w' => e = .returned (.int .i64 ((m + n : Nat) : Int)) ∧ Below w.heap.size w w' := by
  rcases h with ⟨rfl, h0⟩ | ⟨g, cap, rfl, hcap, hc⟩
  · have hn0 : n = 0 := by have := mkS_len m n; rw [h0] at this; exact this.symm
    subst hn0
    clear h0
    go_enter Try.func34, Try.ntmps34
    go_wp2
    refine wp_loop_rounds 1 ?_
    rw [rounds_succ]
    go_wp2
    go_ret
    exact ⟨ret_int (by simp), Below.refl _ _⟩
  · rw [mkS_len] at hcap ⊢
    have HC := Lib.hid hc
    clear hc
    go_enter Try.func34, Try.ntmps34
    go_wp2
    go_loopw [1, 5] (fun a i wr => ∃ k : Nat, k ≤ n ∧ i = .int .i64 k ∧ a = .int .i64 ((m + k : Nat) : Int) ∧ Below w.heap.size w wr) (fun _ i _ => n - (intOf i).toNat)
    case atStart => exact ⟨0, Nat.zero_le _, rfl, by simp, Below.refl _ _⟩
    case round =>
      obtain ⟨k, hk, rfl, rfl, hb⟩ := hrel
      by_cases hlt : k < n
      · obtain ⟨y, hy⟩ : ∃ y : Nat, y = m + k := ⟨_, rfl⟩
        have hc0 := HC.out k _ (mkS_get hlt)
        have hc1 : wr.cell? ⟨g, k, none⟩ = some (.string (mtS (m + k))) := by rw [hb.cell (p := ⟨g, k, none⟩) (World.block_lt_of_cell? w _ hc0)]; exact hc0
        rw [← hy] at hc1 ⊢
        have hcells : ∀ d os, (grow (redrawn wr d) os).cell? ⟨g, k, none⟩ = some (.string (mtS y)) := fun d os => cell_regrown hc1 d os
        have cM : ∀ d os, Calls Try.prog 65 #[.int .i64 (y : Int)] (grow (redrawn wr d) os) fun e w'' => e = .returned (.string (mtS y)) ∧ ∃ p : Regrown, w'' = grow (redrawn wr p.d) p.os :=
          fun d os => Calls.regrown_of (markText_c y _ (by omega))
        have hyb : y ≤ 1073741824 := by omega
        have HY := Lib.hid hy
        have b1 : (k : Int) < (n : Int) := by omega
        have heq : ((mtS y).toList != (mtS y).toList) = false := by simp
        clear hy hc0 hc1
        go_wp2
        refine wp_region_quiet_below (by kernel_rfl) (by kernel_rfl) ?_
        repeat (quiet_step (exact cM _ _))
        refine wpQuiet_nil ?_
        intro _ hw'
        obtain ⟨⟨dq, osq⟩, hw''⟩ := hw'
        subst hw''
        have hb2 := Lib.hid (hb.trans ((below_regrown wr dq osq).mono hb.size))
        obtain ⟨w2, hw2⟩ : ∃ w2, w2 = grow (redrawn wr dq) osq := ⟨_, rfl⟩
        rw [← hw2] at hb2 ⊢
        clear hw2
        go_wp2
        go_roundw
        case rel => exact ⟨k + 1, by omega, by go_num, by have := HY.out; go_num, hb2.out⟩
        case measure => simp [intOf] <;> omega
      · go_wp2
        go_ret
        exact ⟨ret_int (by omega), hb⟩
end Go.Proofs.Yticbdpkmpnechaa
