/- Contracts of SplitAny (at a comma), Join (at a comma), l03Within, SubstOk, FormatSubst, ParseSubst of the reference. Conditions: short texts, valid substitutions. -/
import Derived.Test.YtlmciomoimfajaaX2
import Derived.Test.YtlmciomoimfajaaA1
import Derived.Test.YtlmciomoimfajaaB0
namespace Go.Proofs.Ytlmciomoimfajaa
open Go.RowKit
set_option linter.unusedVariables false

/-- split at commas: the parts so far, and where the next one begins -/
def spA (s : ByteArray) : Nat → List ByteArray × Nat
  | 0 => ([], 0)
  | i + 1 => if s.data.toList[i]? = some 44 then ((spA s i).1 ++ [s.extract (spA s i).2 i], i + 1) else spA s i
def spW (s : ByteArray) : List ByteArray := (spA s s.size).1 ++ [s.extract (spA s s.size).2 s.size]
theorem spA_le (s : ByteArray) : ∀ i, (spA s i).2 ≤ i ∧ (spA s i).1.length ≤ i
  | 0 => ⟨Nat.le_refl _, Nat.le_refl _⟩
  | i + 1 => by
    have := spA_le s i
    unfold spA; split
    · simp; omega
    · omega
theorem spA_yes {s : ByteArray} {i : Nat} (h : s.data.toList[i]? = some 44) : spA s (i + 1) = ((spA s i).1 ++ [s.extract (spA s i).2 i], i + 1) := by rw [spA, if_pos h]
theorem spA_no {s : ByteArray} {i : Nat} (h : ¬ s.data.toList[i]? = some 44) : spA s (i + 1) = spA s i := by rw [spA, if_neg h]
set_option maxRecDepth 20000 in
set_option maxHeartbeats 4000000 in
theorem splitAny_c (s : ByteArray) (w : World) (hs : s.size ≤ 1000) :
    Calls Try.prog 159 #[.string s, .string ⟨#[44]⟩] w (RetS (spW s) w) := by
  have hst : Hid (OwnS (w.alloc (.cells #[] 9)) w.heap.size (.slice (some ⟨w.heap.size, 0, none⟩) 0 0) (spA s 0).1) := ownS_empty w (Nat.le_refl _)
  have hle := Lib.hid (spA_le s)
  have hyes := Lib.hid (fun i => @spA_yes s i)
  have hno := Lib.hid (fun i => @spA_no s i)
  have hfin : Hid (spW s = (spA s s.size).1 ++ [s.extract (spA s s.size).2 s.size]) := rfl
  go_enter Try.func159, Try.ntmps159
  go_wp2
  go_loopw [5, 6, 7] (fun y1 y2 z wr => ∃ (i f : Nat) (v : Value), v = y1 ∧ y2 = .int .i64 (f : Int) ∧ z = .int .i64 (i : Int) ∧ i ≤ s.size ∧ Hid (f = (spA s i).2) ∧ Hid (OwnS wr w.heap.size v (spA s i).1) ∧ Below w.heap.size w wr) (fun _ _ z _ => s.size - (intOf z).toNat)
  case atStart => exact ⟨0, 0, _, rfl, rfl, rfl, by omega, rfl, hst, (Below.refl _ _).alloc (Nat.le_refl _) _⟩
  case round =>
    obtain ⟨i, f, v, rfl, rfl, rfl, hi, hf, hown, hbr⟩ := hrel
    have hszr := hbr.size
    obtain ⟨hf1, hal⟩ := hle.out i
    rw [← hf.out] at hf1
    by_cases hlt : i < s.size
    · have b1 : (i : Int) < (s.size : Int) := by omega
      have b2 : (f : Int) ≤ (i : Int) := by omega
      have b3 : (i : Int) ≤ (s.size : Int) := by omega
      have b4 : f ≤ i := hf1
      have hg := get_some s i hlt
      have hownd := fun d => Lib.hid (show OwnS (wr.drewN d) w.heap.size v (spA s i).1 from hown.out)
      have hbd := fun d => Lib.hid (below_drewN hbr d)
      by_cases hc : s[i] = 44
      · have c1 : ((s[i].toNat : Nat) : Int) = 44 := by rw [hc]; rfl
        have hnx := Lib.hid (hyes.out i (by rw [hg, hc]))
        have h2 : Hid (i + 1 = (spA s (i + 1)).2) := by unfold Hid; rw [hnx.out]
        have h1 : Hid ((spA s (i + 1)).1 = (spA s i).1 ++ [s.extract f i]) := by unfold Hid; rw [hnx.out, hf.out]
        clear hc hg
        go_wp2_with fail
        refine wp_loop_rounds 2 ?_
        rw [rounds_succ]
        go_wp2_with fail
        go_quiet (fail)
        obtain ⟨wd, hwd⟩ : ∃ wd, wd = wr.drewN nq := ⟨_, rfl⟩
        have ho2 : Hid (OwnS wd w.heap.size v (spA s i).1) := by rw [hwd]; exact (hownd nq).out
        have hb2 : Hid (Below w.heap.size w wd) := by rw [hwd]; exact (hbd nq).out
        have hs2 := hb2.out.size
        rw [← hwd]
        clear hwd
        go_wp2_with (at_builtin; refine appS rfl _ _ rfl w.heap.size _ (spA s i).1 rfl (by exact ho2.out) _ rfl (by omega) (by exact hs2) ?_; intro v2 w2 hown2 hg2)
        go_roundw
        case rel => exact ⟨i + 1, i + 1, v2, rfl, by go_num, by go_num, by omega, h2, by rw [h1.out]; exact hown2, below_app hb2.out ho2.out hg2 hs2⟩
        case measure => simp [intOf] <;> omega
      · have c1 : (((s[i].toNat : Nat) : Int) == 44) = false := beq_eq_false_iff_ne.2 (fun e => hc (UInt8.toNat_inj.1 (by show s[i].toNat = 44; omega)))
        have c2 : (((s[i].toNat : Nat) : Int) == ((((⟨#[44]⟩ : ByteArray)[0]'(by decide)).toNat : Nat) : Int)) = false := c1
        have hnx := Lib.hid (hno.out i (by rw [hg]; intro e; exact hc (Option.some.inj e)))
        have h2 : Hid (f = (spA s (i + 1)).2) := by unfold Hid; rw [hnx.out]; exact hf.out
        clear hc hg
        go_wp2_with fail
        refine wp_loop_rounds 2 ?_
        rw [rounds_succ]
        go_wp2_with fail
        go_quiet (fail)
        go_wp2_with fail
        rw [rounds_succ]
        go_wp2_with fail
        go_roundw
        case rel => exact ⟨i + 1, f, v, rfl, rfl, by go_num, by omega, h2, by rw [hnx.out]; exact (hownd _).out, (hbd _).out⟩
        case measure => simp [intOf] <;> omega
    · obtain rfl : i = s.size := by omega
      have b1 : decide ((s.size : Int) < (s.size : Int)) = false := decide_eq_false (by omega)
      have b2 : (f : Int) ≤ (s.size : Int) := by omega
      have hfin2 : Hid (spW s = (spA s s.size).1 ++ [s.extract f s.size]) := by unfold Hid; rw [hf.out]; exact hfin.out
      go_wp2_with (at_builtin; refine appS rfl _ _ rfl w.heap.size _ (spA s s.size).1 rfl (by exact hown.out) _ rfl (by omega) (by exact hszr) ?_; intro v2 w2 hown2 hg2)
      go_ret
      exact ⟨v2, rfl, by rw [hfin2.out]; exact hown2, below_app hbr hown.out hg2 hszr⟩

/-! joined by commas -/
def jnA (L : List ByteArray) : Nat → List UInt8
  | 0 => []
  | k + 1 => jnA L k ++ (if 0 < k then [44] else []) ++ ((L.getD k ⟨#[]⟩).data.toList)
def jnW (L : List ByteArray) : ByteArray := St (jnA L L.length)
theorem jnA_first {L : List ByteArray} {x : ByteArray} (h : L[0]? = some x) : St (jnA L 0) ++ x = St (jnA L 1) := by
  apply str_inj
  rw [ByteArray.data_append, Array.toList_append]
  simp [jnA, St, List.getD_eq_getElem?_getD, h]
theorem jnA_next {L : List ByteArray} {k : Nat} {x : ByteArray} (h : L[k]? = some x) (hk : 0 < k) : (St (jnA L k) ++ ⟨#[44]⟩) ++ x = St (jnA L (k + 1)) := by
  apply str_inj
  rw [ByteArray.data_append, Array.toList_append, ByteArray.data_append, Array.toList_append]
  rw [St_data, jnA, if_pos hk, List.getD_eq_getElem?_getD, h]; rfl
theorem jnA_len {L : List ByteArray} (h : ∀ x ∈ L, x.size ≤ 8) : ∀ k, k ≤ L.length → (jnA L k).length ≤ 9 * k
  | 0, _ => by simp [jnA]
  | k + 1, hk => by
    have := jnA_len h k (by omega)
    have h2 := h L[k] (List.getElem_mem _)
    rw [size_len] at h2
    rw [jnA, List.length_append, List.length_append, List.getD_eq_getElem?_getD, List.getElem?_eq_getElem (by omega)]
    have h3 : (if 0 < k then [(44 : UInt8)] else []).length ≤ 1 := by split <;> simp
    show _ + (L[k].data.toList).length ≤ _
    omega
set_option maxHeartbeats 2000000 in
theorem join_c (ga : Option Addr) (n c : Nat) (L : List ByteArray) (w : World) (h : RdSub w ga n c L) (hz : ∀ x ∈ L, x.size ≤ 8) (hn4 : n ≤ 4) :
    Calls Try.prog 167 #[.slice ga n c, .string ⟨#[44]⟩] w fun e w' => e = .returned (.string (jnW L)) ∧ w = w' := by
  have hn := h.1
  have hget := Lib.hid (fun k x (hx : L[k]? = some x) => h.get hx)
  have h1 := Lib.hid (fun x => @jnA_first L x)
  have h2 := Lib.hid (fun k x => @jnA_next L k x)
  have hl := Lib.hid (jnA_len hz)
  have HZ := Lib.hid hz
  have HN := Lib.hid hn
  have hst : Hid ((⟨#[]⟩ : ByteArray) = St (jnA L 0)) := rfl
  have hfin : Hid (jnW L = St (jnA L n)) := by unfold Hid jnW; rw [hn]
  clear h hz hn
  go_enter Try.func167, Try.ntmps167
  go_wp2
  go_loop [5, 10] (fun y z => ∃ (k : Nat) (t : ByteArray), y = .string t ∧ z = .int .i64 (k : Int) ∧ k ≤ n ∧ Hid (t = St (jnA L k))) (fun _ z => n - (intOf z).toNat)
  case atStart => exact ⟨0, _, rfl, rfl, by omega, hst⟩
  case round =>
    obtain ⟨k, t, rfl, rfl, hk, ht⟩ := hrel
    by_cases hlt : k < n
    · obtain ⟨x, hx⟩ : ∃ x, L[k]? = some x := ⟨_, List.getElem?_eq_getElem (by rw [← HN.out]; exact hlt)⟩
      obtain ⟨g, rfl, hcap, cx⟩ := hget.out k x hx
      have hx8 := HZ.out x (List.mem_of_getElem? hx)
      have hl9 := hl.out k (by rw [← HN.out]; omega)
      have htz : t.size ≤ 40 := by rw [ht.out, St_size]; omega
      have hcz : (⟨#[44]⟩ : ByteArray).size = 1 := rfl
      have htz2 : (t ++ ⟨#[44]⟩).size ≤ 41 := by rw [ByteArray.size_append, hcz]; omega
      have b1 : (k : Int) < (n : Int) := by omega
      rcases Nat.eq_zero_or_pos k with h0 | h0
      · subst h0
        have hnx : Hid (t ++ x = St (jnA L 1)) := by unfold Hid; rw [ht.out]; exact h1.out x hx
        clear hx
        go_wp2
        go_round
        case rel => exact ⟨1, _, rfl, by go_num, by omega, hnx⟩
        case measure => simp [intOf] <;> omega
      · have hnx : Hid ((t ++ ⟨#[44]⟩) ++ x = St (jnA L (k + 1))) := by unfold Hid; rw [ht.out]; exact h2.out k x hx h0
        have d1 : decide ((0 : Int) < (k : Int)) = true := decide_eq_true (by omega)
        clear hx
        go_wp2
        go_round
        case rel => exact ⟨k + 1, _, rfl, by go_num, by omega, hnx⟩
        case measure => simp [intOf] <;> omega
    · obtain rfl : n = k := by omega
      have b1 : decide ((n : Int) < (n : Int)) = false := decide_eq_false (by omega)
      have hr : Hid (t = jnW L) := ht.out.trans hfin.out.symm
      go_wp2
      go_ret
      exact ⟨ret_str hr.out, rfl⟩
set_option maxHeartbeats 2000000 in
theorem l03Within_c (n : Nat) (s : ByteArray) (w : World) (hn : n ≤ 4) (hs : s.size ≤ 1000) (h : ∀ k (hk : k < s.size), ∃ j, s[k].toNat = j + 97 ∧ j < n) :
    Calls Try.prog 166 #[.int .i64 (n : Int), .string s] w fun e w' => e = .returned (.bool true) ∧ ∃ d, w' = w.drewN d := by
  have HI := Lib.hid h
  clear h
  go_enter Try.func166, Try.ntmps166
  go_wp2
  go_loopw [5] (fun z wr => ∃ k d : Nat, z = .int .i64 (k : Int) ∧ k ≤ s.size ∧ wr = w.drewN d) (fun z _ => s.size - (intOf z).toNat)
  case atStart => exact ⟨0, 0, rfl, by omega, rfl⟩
  case round =>
    obtain ⟨k, d, rfl, hk, rfl⟩ := hrel
    by_cases hlt : k < s.size
    · obtain ⟨j, hj, hjn⟩ := HI.out k hlt
      have hji : ((s[k].toNat : Nat) : Int) - 97 = (j : Int) := by omega
      have hjw : IntKind.u8.wrap (j : Int) = (j : Int) := by unfold IntKind.wrap; simp [IntKind.signed, IntKind.bits]; omega
      have hjw2 : IntKind.i64.wrap (j : Int) = (j : Int) := IntWalk.i64_in _ (by omega)
      have b1 : decide ((n : Int) ≤ (j : Int)) = false := decide_eq_false (by omega)
      have b2 : decide (n ≤ j) = false := decide_eq_false (by omega)
      have b3 : (k : Int) < (s.size : Int) := by omega
      clear hj
      go_wp2
      go_roundw
      case rel => exact ⟨k + 1, d, by go_num, by omega, rfl⟩
      case measure => simp [intOf] <;> omega
    · obtain rfl : k = s.size := by omega
      have b1 : decide ((s.size : Int) < (s.size : Int)) = false := decide_eq_false (by omega)
      go_wp2
      go_ret
      exact ⟨rfl, d, rfl⟩
set_option maxRecDepth 20000 in
set_option maxHeartbeats 2000000 in
theorem substOk_s (ga : Option Addr) (n c : Nat) (L : List ByteArray) (w : World) (h : RdSub w ga n c L) (hok : OkL L) :
    Calls Try.prog 160 #[sbV ga n c] w fun e w' => e = .returned (.bool true) ∧ Below w.heap.size w w' := by
  have h4 := hok.four
  have h0 := hok.one
  have hn := h.1
  have hn4 : n ≤ 4 := by omega
  have hn1 : 1 ≤ n := by omega
  have HR := Lib.hid (fun W (hW : Below w.heap.size w W) => h.below hW)
  have hc1 := fun x W => Lib.hid (l01In_c ((x : Nat) : Int) 1 8 W)
  have hc2 := fun W => Lib.hid (l01In_c (n : Int) 1 4 W)
  rw [inB_iff.2 (show (1 : Int) ≤ (n : Int) ∧ (n : Int) ≤ 4 by omega)] at hc2
  have hWO := Lib.hid (fun x (hx : x ∈ L) W => show Calls Try.prog 165 #[.string x] W fun e w' => e = .returned (.bool true) ∧ W = w' by
    have := wordOk_c x W (by have := (hok.sz x hx).2; unfold maxLen; omega)
    rw [okL_word hok (hok.let_ x hx) (by have := (hok.sz x hx).2; omega)] at this
    exact this)
  have hWI := Lib.hid (fun x (hx : x ∈ L) W => l03Within_c n x W hn4 (by have := (hok.sz x hx).2; omega) (fun k hk => by
    obtain ⟨j, h1, h2⟩ := inL_idx (hok.let_ x hx x[k] (List.mem_of_getElem (i := k) (h := by simpa using hk) rfl))
    exact ⟨j, h1, by omega⟩))
  have hSZ := Lib.hid hok.sz
  have HN := Lib.hid hn
  unfold sbV
  have hba : Below w.heap.size w (w.alloc (.cells #[.slice ga n c] 67)) := (Below.refl _ _).alloc (Nat.le_refl _) _
  have cw := box_cell w (.slice ga n c) 67
  obtain ⟨wa, hwa⟩ : ∃ wa, wa = w.alloc (.cells #[.slice ga n c] 67) := ⟨_, rfl⟩
  have hszw : w.heap.size < wa.heap.size := by rw [hwa]; simp
  rw [← hwa] at cw hba
  have CW := Lib.hid (fun W (hW : Below wa.heap.size wa W) => show W.cell? ⟨w.heap.size, 0, none⟩ = some (.slice ga n c) by rw [hW.cell (p := ⟨w.heap.size, 0, none⟩) hszw]; exact cw)
  have HBA := Lib.hid hba
  have HWA := Lib.hid hwa
  clear h hok hn hwa hba cw h4 h0
  go_enter Try.func160, Try.ntmps160
  have cb := CW.out wa (Below.refl _ _)
  go_wp2_with fail
  rw [← HWA.out]
  refine (hc2 _).out.mono ?_
  rintro e w' ⟨rfl, rfl⟩
  go_wp2_with fail
  go_loopw [15] (fun z wr => ∃ k : Nat, z = .int .i64 (k : Int) ∧ k ≤ n ∧ Below wa.heap.size wa wr) (fun z _ => n - (intOf z).toNat)
  case atStart => exact ⟨0, rfl, by omega, Below.refl _ _⟩
  case round =>
    obtain ⟨k, rfl, hk, hbr⟩ := hrel
    have hbw : Below w.heap.size w wr := HBA.out.trans (hbr.mono (by omega))
    have cbr := CW.out wr hbr
    by_cases hlt : k < n
    · obtain ⟨x, hx⟩ : ∃ x, L[k]? = some x := ⟨_, List.getElem?_eq_getElem (by rw [← HN.out]; exact hlt)⟩
      obtain ⟨g, rfl, hcap, cx⟩ := (HR.out wr hbw).get hx
      have hxm := List.mem_of_getElem? hx
      have hz := hSZ.out x hxm
      have q1 := hc1 x.size
      rw [inB_iff.2 (show (1 : Int) ≤ ((x.size : Nat) : Int) ∧ ((x.size : Nat) : Int) ≤ 8 by omega)] at q1
      have q2 := Lib.hid (hWO.out x hxm)
      have q3 := Lib.hid (hWI.out x hxm)
      have b1 : (k : Int) < (n : Int) := by omega
      have HBR := Lib.hid hbr
      clear hx hxm hc1
      go_wp2_with fail
      refine (q1 _).out.mono ?_
      rintro e w' ⟨rfl, rfl⟩
      go_wp2_with fail
      refine (q2.out _).mono ?_
      rintro e w' ⟨rfl, rfl⟩
      go_wp2_with fail
      refine (q3.out _).mono ?_
      rintro e w' ⟨rfl, d, rfl⟩
      have K2 := Lib.hid (below_drewN HBR.out d)
      go_wp2_with fail
      go_roundw
      case rel => exact ⟨k + 1, by go_num, by omega, K2.out⟩
      case measure => simp [intOf] <;> omega
    · obtain rfl : n = k := by omega
      have b1 : decide ((n : Int) < (n : Int)) = false := decide_eq_false (by omega)
      have HBW := Lib.hid hbw
      go_wp2_with fail
      go_ret
      exact ⟨rfl, HBW.out⟩
set_option maxRecDepth 20000 in
set_option maxHeartbeats 2000000 in
theorem formatSubst_s (ga : Option Addr) (n c : Nat) (L : List ByteArray) (w : World) (h : RdSub w ga n c L) (hok : OkL L) :
    Calls Try.prog 161 #[sbV ga n c] w fun e w' => e = .returned (.string (jnW L)) ∧ Below w.heap.size w w' := by
  have hn := h.1
  have h4 := hok.four
  have hn4 : n ≤ 4 := by omega
  have h1 := Lib.hid (fun W (hW : Below w.heap.size w W) => substOk_s ga n c L W (h.below hW) hok)
  have h2 := Lib.hid (fun W (hW : Below w.heap.size w W) => join_c ga n c L W (h.below hW) (fun x hx => (hok.sz x hx).2) hn4)
  unfold sbV at h1 ⊢
  have hba : Below w.heap.size w (w.alloc (.cells #[.slice ga n c] 67)) := (Below.refl _ _).alloc (Nat.le_refl _) _
  have cw := box_cell w (.slice ga n c) 67
  obtain ⟨wa, hwa⟩ : ∃ wa, wa = w.alloc (.cells #[.slice ga n c] 67) := ⟨_, rfl⟩
  have hszw : w.heap.size < wa.heap.size := by rw [hwa]; simp
  rw [← hwa] at cw hba
  have CW := Lib.hid (fun W (hW : Below wa.heap.size wa W) => show W.cell? ⟨w.heap.size, 0, none⟩ = some (.slice ga n c) by rw [hW.cell (p := ⟨w.heap.size, 0, none⟩) hszw]; exact cw)
  have HBA := Lib.hid hba
  have HWA := Lib.hid hwa
  clear h hok hn hwa hba cw h4
  go_enter Try.func161, Try.ntmps161
  go_wp2_with fail
  rw [← HWA.out]
  refine (h1.out wa HBA.out).mono ?_
  rintro e w1 ⟨rfl, b1⟩
  have K1 := Lib.hid b1
  have cb := CW.out w1 b1
  clear b1
  go_wp2_with fail
  refine (h2.out w1 (HBA.out.trans (K1.out.mono (by omega)))).mono ?_
  rintro e w' ⟨rfl, rfl⟩
  go_wp2_with fail
  go_ret
  exact ⟨rfl, HBA.out.trans (K1.out.mono (by omega))⟩
theorem own_baseX {w : World} {B B0 : Nat} {v : Value} {l : List ByteArray} (h : OwnS w B v l) (hB : B0 ≤ B) : OwnS w B0 v l := by
  refine ⟨h.1, ?_⟩
  rcases h.2 with h | ⟨g, cap, cur, hv, hb, h⟩
  · exact .inl h
  · exact .inr ⟨g, cap, cur, hv, Nat.le_trans hB hb, h⟩
theorem grown_setc (w : World) (b o : Nat) (v : Value) : w.grownBy (w.setCell ⟨b, o, none⟩ v) (some b) :=
  ⟨rfl, rfl, rfl, by simp [World.setCell], fun k _ hne => Below.heap_setCell w ⟨b, o, none⟩ v k (fun e => hne (by rw [e]))⟩
theorem heap_cell {w : World} {b : Nat} {x : Value} {t : TypeId} (h : w.heap[b]? = some (.cells #[x] t (0, 0))) : w.cell? ⟨b, 0, none⟩ = some x ∧ w.frozen? ⟨b, 0, none⟩ = false := by
  constructor
  · unfold World.cell?; rw [h]; rfl
  · unfold World.frozen?; rw [h]; rfl
set_option maxRecDepth 20000 in
set_option maxHeartbeats 4000000 in
theorem parseSubst_s (T : ByteArray) (L : List ByteArray) (w : World) (hT : T.size ≤ 40) (hL : spW T = L) (hok : OkL L) (hj : jnW L = T) :
    Calls Try.prog 149 #[.string T] w fun e w' => ∃ ga c, e = .returned (.tuple #[sbV ga L.length c, .bool true]) ∧ OwnS w' w.heap.size (.slice ga L.length c) L ∧ Below w.heap.size w w' := by
  have h1 := Lib.hid (fun W => splitAny_c T W (by omega))
  rw [hL] at h1
  have h2 := Lib.hid (fun W ga c (h : RdSub W ga L.length c L) => substOk_s ga L.length c L W h hok)
  have h3 := Lib.hid (fun W ga c (h : RdSub W ga L.length c L) => formatSubst_s ga L.length c L W h hok)
  rw [hj] at h3
  have d1 : (T.toList != T.toList) = false := by simp
  have d2 : decide ((40 : Int) < (T.size : Int)) = false := decide_eq_false (by omega)
  have d3 : decide (40 < T.size) = false := decide_eq_false (by omega)
  obtain ⟨wz, hwz⟩ : ∃ wz, wz = w.alloc (.cells #[.slice none 0 0] 67) := ⟨_, rfl⟩
  have hbz : Hid (Below w.heap.size w wz) := by rw [hwz]; exact (Below.refl _ _).alloc (Nat.le_refl _) _
  have hsz : wz.heap.size = w.heap.size + 1 := by rw [hwz]; simp
  have hhz : Hid (wz.heap[w.heap.size]? = some (.cells #[.slice none 0 0] 67 (0, 0))) := by rw [hwz]; exact heap_alloc_new w _
  have HWZ := Lib.hid hwz
  obtain ⟨n, hn⟩ : ∃ n, n = L.length := ⟨_, rfl⟩
  rw [← hn] at h2 h3 ⊢
  have HN := Lib.hid hn
  unfold sbV at h2 h3 ⊢
  clear hL hok hj hn hwz
  go_enter Try.func149, Try.ntmps149
  go_wp2_with fail
  rw [← HWZ.out]
  refine (h1.out wz).mono ?_
  rintro e w1 ⟨v, rfl, ho, hb1⟩
  obtain ⟨ga, c, hv, _⟩ := rdS_shape ho.rd
  rw [← HN.out] at hv
  subst hv
  have HO := Lib.hid ho
  have HB1 := Lib.hid hb1
  have hs1 := hb1.size
  clear ho hb1
  obtain ⟨w2, hw2⟩ : ∃ w2, w2 = w1.alloc (.cells #[.slice ga n c] 67) := ⟨_, rfl⟩
  have hb2 : Hid (Below w1.heap.size w1 w2) := by rw [hw2]; exact (Below.refl _ _).alloc (Nat.le_refl _) _
  have hc2 : w2.cell? ⟨w1.heap.size, 0, none⟩ = some (.slice ga n c) := by rw [hw2]; exact box_cell w1 _ _
  have hs2 : w1.heap.size < w2.heap.size := by rw [hw2]; simp
  have HW2 := Lib.hid hw2
  have hr2 : Hid (RdSub w2 ga n c L) := ⟨HN.out, HO.out.rd.below hb2.out⟩
  clear hw2
  go_wp2_with fail
  rw [← HW2.out]
  refine (h2.out w2 ga c hr2.out).mono ?_
  rintro e w3 ⟨rfl, b3⟩
  have hc3 : w3.cell? ⟨w1.heap.size, 0, none⟩ = some (.slice ga n c) := by rw [b3.cell (p := ⟨w1.heap.size, 0, none⟩) hs2]; exact hc2
  have hb3 := Lib.hid (hb2.out.trans (b3.mono (by omega)))
  have hr3 : Hid (RdSub w3 ga n c L) := hr2.out.below b3
  have hs3 := b3.size
  clear b3
  go_wp2_with fail
  refine (h3.out w3 ga c hr3.out).mono ?_
  rintro e w4 ⟨rfl, b4⟩
  have hc4 : w4.cell? ⟨w1.heap.size, 0, none⟩ = some (.slice ga n c) := by rw [b4.cell (p := ⟨w1.heap.size, 0, none⟩) (show w1.heap.size < w3.heap.size by omega)]; exact hc3
  have hb4 := Lib.hid (hb3.out.trans (b4.mono (by omega)))
  have hh4 : w4.heap[w.heap.size]? = some (.cells #[.slice none 0 0] 67 (0, 0)) := by
    rw [hb4.out.block _ (by omega), HB1.out.block _ (by omega)]; exact hhz.out
  obtain ⟨r3, r4⟩ := heap_cell hh4
  have r5 := World.cell?_setCell_same w4 ⟨w.heap.size, 0, none⟩ (.slice ga n c) r3
  have ho4 : Hid (OwnS (w4.setCell ⟨w.heap.size, 0, none⟩ (.slice ga n c)) w.heap.size (.slice ga n c) L) := by
    have h1 : OwnS w4 wz.heap.size (.slice ga n c) L := own_below HO.out hb4.out
    refine own_baseX (World.ownsRow.kept h1 (grown_setc w4 w.heap.size 0 _) ?_) (by omega)
    cases hq : (Value.slice ga n c).ownBlock with
    | none => exact .inl rfl
    | some q => exact .inr (by have := (World.ownsRow.lt h1 q hq).1; intro e; cases e; omega)
  have hb5 : Hid (Below w.heap.size w (w4.setCell ⟨w.heap.size, 0, none⟩ (.slice ga n c))) := (hbz.out.trans ((HB1.out.mono (by omega)).trans (hb4.out.mono (by omega)))).setCell (p := ⟨w.heap.size, 0, none⟩) (Nat.le_refl _) _
  clear b4 hh4
  go_wp2_with fail
  refine bodyPost_ret (v := .tuple #[.agg #[.slice ga n c], .bool true]) (by simp [results, Try.results149, go_sem, r5]) rfl ?_
  exact ⟨ga, c, rfl, ho4.out, hb5.out⟩
end Go.Proofs.Ytlmciomoimfajaa
