/- Contracts of in (with its answer), isLength, FactorsOf, ComplexityOf, neighbors, FollowersOf, LeadersOf, special, RightSpecial, LeftSpecial. Conditions: words; the library's variable MaxLen holds a number. -/
import Derived.Test.YtlmciomoimfajaaY1
import Derived.Test.YtlmciomoimfajaaC4
import Derived.Test.YtlmciomoimfajaaR1
import Derived.Maps.AppendAt
namespace Go.Proofs.Ytlmciomoimfajaa
open Go.RowKit
set_option linter.unusedVariables false

set_option maxHeartbeats 1000000 in
theorem inb_c (v : Value) (L : List ByteArray) (x : ByteArray) (w : World) (hrd : RdS w v L) (hl : L.length ≤ 1000001) :
    Calls Try.prog 56 #[v, .string x] w fun e w' => e = .returned (.bool (memB L x)) ∧ w = w' := by
  obtain ⟨ga, cc, rfl, hcell⟩ := rdS_shape hrd
  have HC := Lib.hid hcell
  have hno : Hid ((∀ j, j < L.length → L[j]? ≠ some x) → memB L x = false) := fun h => by
    cases hm : memB L x
    · rfl
    · obtain ⟨j, hj, e⟩ := List.mem_iff_getElem.1 (memB_iff.1 hm)
      exact absurd (by rw [List.getElem?_eq_getElem hj, e]) (h j hj)
  obtain ⟨N, hN⟩ : ∃ N, N = L.length := ⟨_, rfl⟩
  have HN := Lib.hid hN
  rw [← hN] at hl hno ⊢
  clear hcell hrd hN
  go_enter Try.func56, Try.ntmps56
  go_wp2
  go_loop [9] (fun z => ∃ k : Nat, z = .int .i64 k ∧ k ≤ N ∧ Hid (∀ j, j < k → L[j]? ≠ some x)) (fun z => N - (intOf z).toNat)
  case atStart => exact ⟨0, rfl, by omega, fun j hj => by omega⟩
  case round =>
    obtain ⟨k, rfl, hk, hb⟩ := hrel
    by_cases hlk : k < N
    · obtain ⟨y, hy⟩ : ∃ y, L[k]? = some y := ⟨_, List.getElem?_eq_getElem (by rw [← HN.out]; exact hlk)⟩
      obtain ⟨g, rfl, cx, hcap⟩ := HC.out k y hy
      rw [← HN.out] at hcap
      have b1 : (k : Int) < (N : Int) := by omega
      have HY := Lib.hid hy
      clear hy
      cases he : (x.toList == y.toList)
      · have hnx : Hid (∀ j, j < k + 1 → L[j]? ≠ some x) := fun j hj => by
          rcases Nat.lt_succ_iff_lt_or_eq.1 hj with hj | rfl
          · exact hb.out j hj
          · rw [HY.out]; intro e; exact str_bne he (Option.some.inj e).symm
        go_wp2
        go_round
        case rel => exact ⟨k + 1, by go_num, by omega, hnx⟩
        case measure => simp [intOf] <;> omega
      · have hm : Hid (memB L x = true) := memB_iff.2 (by rw [str_beq he]; exact List.mem_of_getElem? HY.out)
        go_wp2
        go_ret
        exact ⟨ret_bool hm.out.symm, rfl⟩
    · obtain rfl : k = N := by omega
      have hm := Lib.hid (hno.out hb.out)
      go_wp2
      go_ret
      exact ⟨ret_bool hm.out.symm, rfl⟩

theorem isLength_c (s : ByteArray) (n : Nat) (w : World) (hw : wordL s.data.toList = true) (h1 : 1 ≤ n) (h2 : n ≤ 400) :
    Calls Try.prog 104 #[.string s, .int .i64 (n : Int)] w fun e w' => e = .returned (.bool true) ∧ w = w' := by
  have hs4 := wordL_size hw
  have c1 := fun W => Lib.hid (isWord_c s W (by unfold maxLen; omega))
  have c2 := fun W => Lib.hid (within_c (n : Int) 1 400 W)
  rw [hw] at c1
  rw [inB_iff.2 (show (1 : Int) ≤ (n : Int) ∧ (n : Int) ≤ 400 by omega)] at c2
  clear hw
  go_enter Try.func104, Try.ntmps104
  go_wp2_with fail
  refine (c1 _).out.mono ?_
  rintro e w' ⟨rfl, rfl⟩
  go_wp2_with fail
  refine (c2 _).out.mono ?_
  rintro e w' ⟨rfl, rfl⟩
  go_wp2_with fail
  go_ret
  exact ⟨rfl, rfl⟩
theorem FactorsOf_i (s : ByteArray) (n : Nat) (w : World) (hw : wordL s.data.toList = true) (h1 : 1 ≤ n) (h2 : n ≤ 400) :
    Calls Try.prog 48 #[.string s, .int .i64 (n : Int)] w (RetS (facW s n) w) := by
  have hs4 := wordL_size hw
  have c1 := fun W => Lib.hid (isLength_c s n W hw h1 h2)
  have c2 := fun W => Lib.hid (factorsOf_c s n W (by omega) (by omega))
  clear hw
  go_enter Try.func48, Try.ntmps48
  go_wp2_with fail
  refine (c1 _).out.mono ?_
  rintro e w' ⟨rfl, rfl⟩
  go_wp2_with fail
  refine (c2 _).out.mono ?_
  rintro e w' ⟨v, rfl, hown, hb⟩
  have HO := Lib.hid hown
  clear hown
  go_wp2_with fail
  go_ret
  exact ⟨v, rfl, HO.out, hb⟩
theorem complexityOf_i (s : ByteArray) (n : Nat) (w : World) (hw : wordL s.data.toList = true) (h1 : 1 ≤ n) (h2 : n ≤ 400) :
    Calls Try.prog 51 #[.string s, .int .i64 (n : Int)] w fun e w' => e = .returned (.int .i64 (((facW s n).length : Nat) : Int)) ∧ Below w.heap.size w w' := by
  have hs4 := wordL_size hw
  have c1 := fun W => Lib.hid (isLength_c s n W hw h1 h2)
  have c2 := fun W => Lib.hid (factorsOf_c s n W (by omega) (by omega))
  clear hw
  go_enter Try.func51, Try.ntmps51
  go_wp2_with fail
  refine (c1 _).out.mono ?_
  rintro e w' ⟨rfl, rfl⟩
  go_wp2_with fail
  refine (c2 _).out.mono ?_
  rintro e w' ⟨v, rfl, hown, hb⟩
  obtain ⟨ga, cc, rfl, _⟩ := rdS_shape hown.rd
  clear hown
  go_wp2_with fail
  go_ret
  exact ⟨rfl, hb⟩

/-! neighbors -/
def nbK (s f : List UInt8) (b : Bool) (k : Nat) : ByteArray := St ((abcdL.take k).filter fun c => Lib.contains s (nbP f b c))
theorem abcdL_step {k : Nat} (h : k < 4) : abcdL.take (k + 1) = abcdL.take k ++ [letU k] := by
  rcases (show k = 0 ∨ k = 1 ∨ k = 2 ∨ k = 3 by omega) with rfl | rfl | rfl | rfl <;> rfl
theorem nbK_yes {s f : List UInt8} {b : Bool} {k : Nat} (hk : k < 4) (h : Lib.contains s (nbP f b (letU k)) = true) : nbK s f b k ++ St [letU k] = nbK s f b (k + 1) := by
  unfold nbK
  rw [abcdL_step hk, List.filter_append, List.filter_cons_of_pos (p := fun c => Lib.contains s (nbP f b c)) h, List.filter_nil]
  apply str_inj
  rw [ByteArray.data_append, Array.toList_append]; rfl
theorem nbK_no {s f : List UInt8} {b : Bool} {k : Nat} (hk : k < 4) (h : Lib.contains s (nbP f b (letU k)) = false) : nbK s f b k = nbK s f b (k + 1) := by
  unfold nbK
  rw [abcdL_step hk, List.filter_append, List.filter_cons_of_neg (p := fun c => Lib.contains s (nbP f b c)) (by rw [h]; decide), List.filter_nil, List.append_nil]
theorem nbK_size (s f : List UInt8) (b : Bool) (k : Nat) : (nbK s f b k).size ≤ 4 := by
  unfold nbK; rw [St_size]
  exact Nat.le_trans (List.length_filter_le _ _) (by rw [List.length_take]; exact Nat.min_le_right _ _)
theorem nbP_true (f : ByteArray) (k : Nat) : (f ++ St [letU k]).data.toList = nbP f.data.toList true (letU k) := by
  rw [ByteArray.data_append, Array.toList_append]; rfl
theorem nbP_false (f : ByteArray) (k : Nat) : (St [letU k] ++ f).data.toList = nbP f.data.toList false (letU k) := by
  rw [ByteArray.data_append, Array.toList_append]; rfl
set_option maxHeartbeats 2000000 in
theorem neighbors_c (s f : ByteArray) (b : Bool) (mx : Int) (w : World) (hm : w.cell? ⟨0, 0, none⟩ = some (.int .i64 mx)) (hs : s.size ≤ 400) (hf : f.size ≤ 400) :
    Calls Try.prog 108 #[.string s, .string f, .bool b] w fun e w' => e = .returned (.string (nbW s f b)) ∧ w = w' := by
  have h3 := fun x => Lib.hid (Try.strings_Contains s x mx w (by omega) hm)
  have hfin : Hid (nbW s f b = nbK s.data.toList f.data.toList b 4) := rfl
  have hst : Hid ((⟨#[]⟩ : ByteArray) = nbK s.data.toList f.data.toList b 0) := rfl
  have HT := Lib.hid (nbP_true f)
  have HF := Lib.hid (nbP_false f)
  clear hm
  go_enter Try.func108, Try.ntmps108
  go_wp2_with fail
  go_loop [7, 11] (fun o z => ∃ (k : Nat) (t : ByteArray), o = .string t ∧ z = .int .i64 k ∧ k ≤ 4 ∧ Hid (t = nbK s.data.toList f.data.toList b k)) (fun _ z => 4 - (intOf z).toNat)
  case atStart => exact ⟨0, _, rfl, rfl, by omega, hst⟩
  case round =>
    obtain ⟨k, t, rfl, rfl, hk, ht⟩ := hrel
    by_cases hlt : k < 4
    · have hle := letter_abcd k hlt
      have c1 : (k : Int) + 1 ≤ 4 := by omega
      have c2 : (k : Int) ≤ (k : Int) + 1 := by omega
      have c3 : (k : Int) < 4 := by omega
      have hz1 : (St [letU k]).size = 1 := rfl
      have hz2 : t.size ≤ 4 := by rw [ht.out]; exact nbK_size _ _ _ _
      have hy := Lib.hid (@nbK_yes s.data.toList f.data.toList b k hlt)
      have hn := Lib.hid (@nbK_no s.data.toList f.data.toList b k hlt)
      cases b
      · have hc := h3 (St [letU k] ++ f)
        rw [HF.out k] at hc
        cases hcc : Lib.contains s.data.toList (nbP f.data.toList false (letU k))
        · have hnx : Hid (t = nbK s.data.toList f.data.toList false (k + 1)) := ht.out.trans (hn.out hcc)
          rw [hcc] at hc
          clear hcc h3
          go_wp2_with fail
          refine hc.out.mono ?_
          rintro e w' ⟨rfl, rfl⟩
          go_wp2_with fail
          go_round
          case rel => exact ⟨k + 1, t, rfl, by go_num, by omega, hnx⟩
          case measure => simp [intOf] <;> omega
        · have hnx : Hid (t ++ St [letU k] = nbK s.data.toList f.data.toList false (k + 1)) := by unfold Hid; rw [ht.out]; exact hy.out hcc
          rw [hcc] at hc
          clear hcc h3
          go_wp2_with fail
          refine hc.out.mono ?_
          rintro e w' ⟨rfl, rfl⟩
          go_wp2_with fail
          go_round
          case rel => exact ⟨k + 1, _, rfl, by go_num, by omega, hnx⟩
          case measure => simp [intOf] <;> omega
      · have hc := h3 (f ++ St [letU k])
        rw [HT.out k] at hc
        cases hcc : Lib.contains s.data.toList (nbP f.data.toList true (letU k))
        · have hnx : Hid (t = nbK s.data.toList f.data.toList true (k + 1)) := ht.out.trans (hn.out hcc)
          rw [hcc] at hc
          clear hcc h3
          go_wp2_with fail
          refine hc.out.mono ?_
          rintro e w' ⟨rfl, rfl⟩
          go_wp2_with fail
          go_round
          case rel => exact ⟨k + 1, t, rfl, by go_num, by omega, hnx⟩
          case measure => simp [intOf] <;> omega
        · have hnx : Hid (t ++ St [letU k] = nbK s.data.toList f.data.toList true (k + 1)) := by unfold Hid; rw [ht.out]; exact hy.out hcc
          rw [hcc] at hc
          clear hcc h3
          go_wp2_with fail
          refine hc.out.mono ?_
          rintro e w' ⟨rfl, rfl⟩
          go_wp2_with fail
          go_round
          case rel => exact ⟨k + 1, _, rfl, by go_num, by omega, hnx⟩
          case measure => simp [intOf] <;> omega
    · obtain rfl : k = 4 := by omega
      have hr : Hid (t = nbW s f b) := ht.out.trans hfin.out.symm
      go_wp2_with fail
      go_ret
      exact ⟨ret_str hr.out, rfl⟩
theorem followersOf_i (s f : ByteArray) (mx : Int) (w : World) (hm : w.cell? ⟨0, 0, none⟩ = some (.int .i64 mx)) (hs : wordL s.data.toList = true) (hf : wordL f.data.toList = true) :
    Calls Try.prog 54 #[.string s, .string f] w fun e w' => e = .returned (.string (nbW s f true)) ∧ w = w' := by
  have hs4 := wordL_size hs
  have hf4 := wordL_size hf
  have h1 := fun W => Lib.hid (isWord_c s W (by unfold maxLen; omega))
  have h2 := fun W => Lib.hid (isWord_c f W (by unfold maxLen; omega))
  have h3 := Lib.hid (neighbors_c s f true mx w hm hs4 hf4)
  rw [hs] at h1
  rw [hf] at h2
  clear hm hs hf
  go_enter Try.func54, Try.ntmps54
  go_wp2_with fail
  refine (h1 _).out.mono ?_
  rintro e w' ⟨rfl, rfl⟩
  go_wp2_with fail
  refine (h2 _).out.mono ?_
  rintro e w' ⟨rfl, rfl⟩
  go_wp2_with fail
  refine h3.out.mono ?_
  rintro e w' ⟨rfl, rfl⟩
  go_wp2_with fail
  go_ret
  exact ⟨rfl, rfl⟩
theorem leadersOf_i (s f : ByteArray) (mx : Int) (w : World) (hm : w.cell? ⟨0, 0, none⟩ = some (.int .i64 mx)) (hs : wordL s.data.toList = true) (hf : wordL f.data.toList = true) :
    Calls Try.prog 55 #[.string s, .string f] w fun e w' => e = .returned (.string (nbW s f false)) ∧ w = w' := by
  have hs4 := wordL_size hs
  have hf4 := wordL_size hf
  have h1 := fun W => Lib.hid (isWord_c s W (by unfold maxLen; omega))
  have h2 := fun W => Lib.hid (isWord_c f W (by unfold maxLen; omega))
  have h3 := Lib.hid (neighbors_c s f false mx w hm hs4 hf4)
  rw [hs] at h1
  rw [hf] at h2
  clear hm hs hf
  go_enter Try.func55, Try.ntmps55
  go_wp2_with fail
  refine (h1 _).out.mono ?_
  rintro e w' ⟨rfl, rfl⟩
  go_wp2_with fail
  refine (h2 _).out.mono ?_
  rintro e w' ⟨rfl, rfl⟩
  go_wp2_with fail
  refine h3.out.mono ?_
  rintro e w' ⟨rfl, rfl⟩
  go_wp2_with fail
  go_ret
  exact ⟨rfl, rfl⟩

/-! a row built beside another one -/
/-- 'out = append(out, y)' at strings; the row stays where it was or lies in a new block -/
theorem appSA {w0 : World} {ops : Array Oper} {rest : List Oper} {o : Oper} {a : Act} {Q : Exit → Act → World → Prop} (hgd : o.guard = none) (s x : Operand)
    (ho : o.op = .call { callee := .builtin .append, args := #[s, x], argTypes := #[43, 43] })
    (base : Nat) (v : Value) (l : List ByteArray) (hs : a.eval s = v) (hown : OwnS w0 base v l) (y : ByteArray)
    (hx : a.eval x = .slice (some ⟨w0.heap.size, 0, none⟩) 1 1) (hlen : l.length ≤ 1099511627776) (hbase : base ≤ w0.heap.size)
    (h : ∀ v' w', OwnS w' base v' (l ++ [y]) → w0.grownBy w' v.ownBlock → (v'.ownBlock = v.ownBlock ∨ v'.ownBlock = some (w0.heap.size + 1)) → wpList Try.prog ops Q rest (a.put o.dst v') w') :
    wpList Try.prog ops Q (o :: rest) a (w0.alloc (.cells #[.string y] 9)) := by
  obtain ⟨i, hi, hz, h1, h2⟩ := info_parts info_str
  have e : sv l ++ [.string y] = sv (l ++ [y]) := by simp [sv]
  have hown2 : (w0.alloc (.cells #[.string y] 9)).ownsRow base 9 1 v l.length (sv l) := World.ownsRow.alloc hown _
  refine wpList_append_own_at _ hgd s x 43 ho base 9 i (.string ByteArray.empty) 1 16 Try.underlying43 hi hz h1 h2 rfl (by decide) v l.length (sv l) hs hown2 ⟨w0.heap.size, 0, none⟩ 1 1 [.string y] hx rfl (one_new w0 (.string y) 9) (fun u hu => by simp at hu; subst hu; rfl) (by unfold maxLen; omega) (by omega) (by simp; omega) ?_
  intro v' w' ho' hg' _ hat
  refine h v' w' ?_ (grown_alloc hg') (by rw [show (w0.alloc (.cells #[.string y] 9)).heap.size = w0.heap.size + 1 by simp] at hat; exact hat)
  unfold OwnS; rw [← e]; simpa using ho'
/-- everything up to 'w1' stands but the block 'a'; the row 'o' lies in the block 'a' or behind 'w1' -/
structure Beside (a : Nat) (w1 : World) (o : Value) (wr : World) : Prop where
  kept : ∀ b, b < w1.heap.size → b ≠ a → wr.heap[b]? = w1.heap[b]?
  at_ : ∀ q, o.ownBlock = some q → q = a ∨ w1.heap.size ≤ q
  size : w1.heap.size ≤ wr.heap.size
theorem Beside.step {a : Nat} {w1 wr w' : World} {o o' : Value} (h : Beside a w1 o wr) (hg : wr.grownBy w' o.ownBlock) (hat : o'.ownBlock = o.ownBlock ∨ o'.ownBlock = some (wr.heap.size + 1)) : Beside a w1 o' w' := by
  have hs := h.size
  refine ⟨fun b hb ha => ?_, fun q hq => ?_, Nat.le_trans hs hg.size⟩
  · rw [hg.block b (by omega) (fun e => by rcases h.at_ b e.symm with h1 | h1 <;> omega)]
    exact h.kept b hb ha
  · rcases hat with e | e
    · exact h.at_ q (by rw [← e]; exact hq)
    · rw [e] at hq; cases hq; exact .inr (by omega)
theorem Beside.cell {a : Nat} {w1 wr : World} {o : Value} (h : Beside a w1 o wr) {p : Addr} (hp : p.block < w1.heap.size) (ha : p.block ≠ a) : wr.cell? p = w1.cell? p := by
  unfold World.cell?; rw [h.kept _ hp ha]
theorem rdS_above {w : World} {B : Nat} {ga : Option Addr} {n c : Nat} {L : List ByteArray} (h : OwnS w B (.slice ga n c) L) : ∀ g, ga = some ⟨g, 0, none⟩ → B ≤ g ∧ g < w.heap.size := fun g e =>
  World.ownsRow.lt h g (by rw [e]; rfl)

/-! special parts -/
theorem spK_yes {s : ByteArray} {L : List ByteArray} {b : Bool} {k : Nat} {x : ByteArray} (h : L[k]? = some x) (hp : spP s b x = true) : (L.take (k + 1)).filter (spP s b) = (L.take k).filter (spP s b) ++ [x] := by
  obtain ⟨h1, h2⟩ := List.getElem?_eq_some_iff.1 h
  rw [List.take_succ_eq_append_getElem h1, h2, List.filter_append, List.filter_cons_of_pos hp, List.filter_nil]
theorem spK_no {s : ByteArray} {L : List ByteArray} {b : Bool} {k : Nat} {x : ByteArray} (h : L[k]? = some x) (hp : spP s b x = false) : (L.take (k + 1)).filter (spP s b) = (L.take k).filter (spP s b) := by
  obtain ⟨h1, h2⟩ := List.getElem?_eq_some_iff.1 h
  rw [List.take_succ_eq_append_getElem h1, h2, List.filter_append, List.filter_cons_of_neg (by rw [hp]; decide), List.filter_nil, List.append_nil]
theorem spK_len (s : ByteArray) (L : List ByteArray) (b : Bool) (k : Nat) : ((L.take k).filter (spP s b)).length ≤ L.length :=
  Nat.le_trans (List.length_filter_le _ _) (by rw [List.length_take]; omega)
set_option maxHeartbeats 2000000 in
theorem special_c (s : ByteArray) (n : Nat) (b : Bool) (mx : Int) (w : World) (hm : w.cell? ⟨0, 0, none⟩ = some (.int .i64 mx)) (hw : wordL s.data.toList = true) (h1 : 1 ≤ n) (h2 : n ≤ 400) :
    Calls Try.prog 107 #[.string s, .int .i64 (n : Int), .bool b] w (RetS (spW s n b) w) := by
  have hs4 := wordL_size hw
  have c1 := fun W => Lib.hid (isLength_c s n W hw h1 h2)
  have c2 := fun W => Lib.hid (factorsOf_c s n W (by omega) (by omega))
  have hmb := World.block_lt_of_cell? w _ hm
  have HM := Lib.hid (fun W (hb : Below w.heap.size w W) => show W.cell? ⟨0, 0, none⟩ = some (.int .i64 mx) by rw [hb.cell (p := ⟨0, 0, none⟩) hmb]; exact hm)
  have hfs := Lib.hid (fun x => @facW_size s x n)
  have hfl := facW_len s n
  obtain ⟨L, hL⟩ : ∃ L, L = facW s n := ⟨_, rfl⟩
  have hr : Hid (spW s n b = L.filter (spP s b)) := by rw [hL]; rfl
  rw [← hL] at c2 hfs hfl
  have hst : Hid (OwnS (w.alloc (.cells #[] 9)) w.heap.size (.slice (some ⟨w.heap.size, 0, none⟩) 0 0) ((L.take 0).filter (spP s b))) := ownS_empty w (Nat.le_refl _)
  clear hw hm hmb hL
  go_enter Try.func107, Try.ntmps107
  go_wp2_with fail
  refine (c1 _).out.mono ?_
  rintro e w' ⟨rfl, rfl⟩
  go_wp2_with fail
  refine (c2 _).out.mono ?_
  rintro e w1 ⟨vL, rfl, hoL, hbL⟩
  have RL := Lib.hid hoL.rd
  obtain ⟨ga, cc, rfl, hcell⟩ := rdS_shape hoL.rd
  have HC := Lib.hid hcell
  have hab := rdS_above hoL
  have hsa : (w.alloc (.cells #[] 9)).heap.size = w.heap.size + 1 := by simp
  rw [hsa] at hab
  have HAB := Lib.hid hab
  have hbL' : Below (w.heap.size + 1) (w.alloc (.cells #[] 9)) w1 := by rw [← hsa]; exact hbL
  have hal : Hid (Below w.heap.size w w1) := ((Below.refl w.heap.size w).alloc (Nat.le_refl _) _).trans (hbL'.mono (by omega))
  have hsz1 : w.heap.size < w1.heap.size := by have := hbL'.size; rw [hsa] at this; exact this
  have hst1 : Hid (OwnS w1 w.heap.size (.slice (some ⟨w.heap.size, 0, none⟩) 0 0) ((L.take 0).filter (spP s b))) := by
    refine World.ownsRow.kept hst.out (row := none) ⟨hbL.os, hbL.tape, hbL.output, hbL.size, fun k hk _ => hbL.block k hk⟩ (.inr (by intro e; cases e))
  have hbs : Hid (Beside w.heap.size w1 (.slice (some ⟨w.heap.size, 0, none⟩) 0 0) w1) := ⟨fun _ _ _ => rfl, fun q hq => by cases hq; exact .inl rfl, Nat.le_refl _⟩
  obtain ⟨N, hN⟩ : ∃ N, N = L.length := ⟨_, rfl⟩
  have HN := Lib.hid hN
  rw [← hN] at hfl ⊢
  clear hcell hN hoL hbL hbL' c1 c2 hst hab hsa
  go_wp2_with fail
  go_loopw [7, 19] (fun o z wr => ∃ (k : Nat) (v : Value), v = o ∧ z = .int .i64 (k : Int) ∧ k ≤ N ∧ Hid (OwnS wr w.heap.size v ((L.take k).filter (spP s b))) ∧ Hid (Beside w.heap.size w1 v wr) ∧ Below w.heap.size w wr) (fun _ z _ => N - (intOf z).toNat)
  case atStart => exact ⟨0, _, rfl, rfl, by omega, hst1, hbs, hal.out⟩
  case round =>
    obtain ⟨k, v, rfl, rfl, hk, hown, hbe, hbw⟩ := hrel
    have hsz := hbw.size
    by_cases hlk : k < N
    · obtain ⟨x, hx⟩ : ∃ x, L[k]? = some x := ⟨_, List.getElem?_eq_getElem (by rw [← HN.out]; exact hlk)⟩
      obtain ⟨g, rfl, cx0, hcap⟩ := HC.out k x hx
      rw [← HN.out] at hcap
      obtain ⟨hg1, hg2⟩ := HAB.out g rfl
      have cx : wr.cell? ⟨g, k, none⟩ = some (.string x) := by rw [hbe.out.cell (p := ⟨g, k, none⟩) hg2 (by show g ≠ w.heap.size; omega)]; exact cx0
      have hxs := hfs.out x (List.mem_of_getElem? hx)
      have hnb := Lib.hid (neighbors_c s x b mx wr (HM.out wr hbw) hs4 (by omega))
      have b1 : (k : Int) < (N : Int) := by omega
      have hyes := Lib.hid (@spK_yes s L b k x hx)
      have hno := Lib.hid (@spK_no s L b k x hx)
      have hll := spK_len s L b k
      rw [← HN.out] at hll
      have hnz := Lib.hid (nbW_size s x b)
      have hn4 := Lib.hid (nbL_len s.data.toList x.data.toList b)
      have hn5 : (nbW s x b).size ≤ 4 := by rw [hnz.out]; exact hn4.out
      clear hx cx0
      cases hsp : spP s b x
      · have hnx : Hid ((L.take k).filter (spP s b) = (L.take (k + 1)).filter (spP s b)) := (hno.out hsp).symm
        have d1 : decide ((1 : Int) < ((nbW s x b).size : Int)) = false := by unfold spP at hsp; exact decide_eq_false (by have := of_decide_eq_false hsp; omega)
        have hown2 : Hid (OwnS wr w.heap.size v ((L.take (k + 1)).filter (spP s b))) := by unfold Hid; rw [← hnx.out]; exact hown.out
        clear hsp
        go_wp2_with fail
        refine hnb.out.mono ?_
        rintro e w' ⟨rfl, rfl⟩
        go_wp2_with fail
        go_roundw
        case rel => exact ⟨k + 1, v, rfl, by go_num, by omega, hown2, hbe, hbw⟩
        case measure => simp [intOf] <;> omega
      · have hnx := hyes.out hsp
        have HNX := Lib.hid hnx
        have d1 : decide ((1 : Int) < ((nbW s x b).size : Int)) = true := by unfold spP at hsp; exact decide_eq_true (by have := of_decide_eq_true hsp; omega)
        clear hsp hnx
        go_wp2_with fail
        refine hnb.out.mono ?_
        rintro e w' ⟨rfl, rfl⟩
        go_wp2_with (at_builtin; refine appSA rfl _ _ rfl w.heap.size _ ((L.take k).filter (spP s b)) rfl (by exact hown.out) _ rfl (by omega) (by exact hsz) ?_; intro v2 w2 hown2 hg2 hat2)
        go_roundw
        case rel => exact ⟨k + 1, v2, rfl, by go_num, by omega, by rw [HNX.out]; exact hown2, hbe.out.step hg2 hat2, below_app hbw hown.out hg2 hsz⟩
        case measure => simp [intOf] <;> omega
    · obtain rfl : k = N := by omega
      have hfin : Hid ((L.take k).filter (spP s b) = spW s n b) := by unfold Hid; rw [hr.out, List.take_of_length_le (by rw [← HN.out]; exact Nat.le_refl _)]
      go_wp2_with fail
      go_ret
      exact ⟨_, rfl, by rw [← hfin.out]; exact hown.out, hbw⟩
theorem rightSpecial_i (s : ByteArray) (n : Nat) (mx : Int) (w : World) (hm : w.cell? ⟨0, 0, none⟩ = some (.int .i64 mx)) (hw : wordL s.data.toList = true) (h1 : 1 ≤ n) (h2 : n ≤ 400) :
    Calls Try.prog 52 #[.string s, .int .i64 (n : Int)] w (RetS (spW s n true) w) := by
  have c1 := Lib.hid (special_c s n true mx w hm hw h1 h2)
  clear hm hw
  go_enter Try.func52, Try.ntmps52
  go_wp2_with fail
  refine c1.out.mono ?_
  rintro e w' ⟨v, rfl, hown, hb⟩
  have HO := Lib.hid hown
  clear hown
  go_wp2_with fail
  go_ret
  exact ⟨v, rfl, HO.out, hb⟩
theorem leftSpecial_i (s : ByteArray) (n : Nat) (mx : Int) (w : World) (hm : w.cell? ⟨0, 0, none⟩ = some (.int .i64 mx)) (hw : wordL s.data.toList = true) (h1 : 1 ≤ n) (h2 : n ≤ 400) :
    Calls Try.prog 53 #[.string s, .int .i64 (n : Int)] w (RetS (spW s n false) w) := by
  have c1 := Lib.hid (special_c s n false mx w hm hw h1 h2)
  clear hm hw
  go_enter Try.func53, Try.ntmps53
  go_wp2_with fail
  refine c1.out.mono ?_
  rintro e w' ⟨v, rfl, hown, hb⟩
  have HO := Lib.hid hown
  clear hown
  go_wp2_with fail
  go_ret
  exact ⟨v, rfl, HO.out, hb⟩
end Go.Proofs.Ytlmciomoimfajaa
