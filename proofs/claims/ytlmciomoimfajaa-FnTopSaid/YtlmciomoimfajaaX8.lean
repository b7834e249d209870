/- Rows of rows of numbers (a matrix), owned; contract of matrix in the program: how often letter i stands in the image of letter k. Conditions: a valid substitution whose images can be read. -/
import Derived.Test.YtlmciomoimfajaaX2
import Derived.Test.YtlmciomoimfajaaM1
import Derived.Test.YtlmciomoimfajaaShelf
namespace Go.Proofs.Ytlmciomoimfajaa
open Go.RowKit
set_option linter.unusedVariables false

theorem info_intsX : (Try.prog.info? 24).map (fun i => (i.zero, i.size, i.bytes)) = some (some (.slice none 0 0), 1, 24) := by kernel_rfl
/-- k rows of N numbers each, of the call's own -/
def OwnX (w : World) (B : Nat) (v : Value) (k N : Nat) (F : Nat → Nat → Int) : Prop :=
  ∃ vs : List Value, vs.length = k ∧ w.ownsRow B 24 1 v k vs ∧ ∀ i u, vs[i]? = some u → ∃ gi ci cur, u = .slice (some ⟨gi, 0, none⟩) N ci ∧ N ≤ ci ∧ B ≤ gi ∧ w.heap[gi]? = some (.cells cur 3 (0, 0)) ∧ ∀ j, j < N → cur[j]? = some (.int .i64 (F i j))
theorem ownX_apart {w : World} {B : Nat} {v : Value} {n g : Nat} {xs : List Value} {c : Array Value} (h : w.ownsRow B 24 1 v n xs) (hg : w.heap[g]? = some (.cells c 3 (0, 0))) : v.ownBlock ≠ some g := by
  rcases h.2 with ⟨rfl, _⟩ | ⟨g', cap, cu, rfl, _, hb, _⟩
  · simp [Value.ownBlock]
  · intro e
    have e' : g' = g := by simpa [Value.ownBlock] using e
    rw [e', hg] at hb
    cases hb
theorem OwnX.kept {w w' : World} {B : Nat} {v : Value} {k N : Nat} {F : Nat → Nat → Int} {r : Option Nat} (h : OwnX w B v k N F) (hg : w.grownBy w' r) (hr : ∀ q, r = some q → q < B ∨ w.heap.size ≤ q) : OwnX w' B v k N F := by
  obtain ⟨vs, hl, ho, hc⟩ := h
  refine ⟨vs, hl, ho.kept hg ?_, fun i u hu => ?_⟩
  · cases hv : v.ownBlock with
    | none => exact .inl rfl
    | some g =>
      refine .inr fun e => ?_
      have h1 := ho.lt g hv
      rcases hr g e.symm with h2 | h2 <;> omega
  · obtain ⟨gi, ci, cur, h1, h2, h3, h4, h5⟩ := hc i u hu
    have hlt := (Array.getElem?_eq_some_iff.1 h4).1
    exact ⟨gi, ci, cur, h1, h2, h3, by rw [hg.block gi hlt (fun e => by rcases hr gi e.symm with h6 | h6 <;> omega)]; exact h4, h5⟩
theorem OwnX.below {w w' : World} {B : Nat} {v : Value} {k N : Nat} {F : Nat → Nat → Int} (h : OwnX w B v k N F) (hb : Below w.heap.size w w') : OwnX w' B v k N F :=
  h.kept (r := none) ⟨hb.os, hb.tape, hb.output, hb.size, fun k hk _ => hb.block k hk⟩ (fun q hq => by cases hq)
theorem OwnX.base {w : World} {B B0 : Nat} {v : Value} {k N : Nat} {F : Nat → Nat → Int} (h : OwnX w B v k N F) (hB : B0 ≤ B) : OwnX w B0 v k N F := by
  obtain ⟨vs, hl, ho, hc⟩ := h
  refine ⟨vs, hl, ⟨ho.1, ?_⟩, fun i u hu => ?_⟩
  · rcases ho.2 with h | ⟨g, cap, cur, hv, hb, h⟩
    · exact .inl h
    · exact .inr ⟨g, cap, cur, hv, Nat.le_trans hB hb, h⟩
  · obtain ⟨gi, ci, cur, h1, h2, h3, h4⟩ := hc i u hu
    exact ⟨gi, ci, cur, h1, h2, Nat.le_trans hB h3, h4⟩
theorem ownX_empty {B : Nat} (w : World) (N : Nat) (F : Nat → Nat → Int) (hb : B ≤ w.heap.size) : OwnX (w.alloc (.cells #[] 24)) B (.slice (some ⟨w.heap.size, 0, none⟩) 0 0) 0 N F :=
  ⟨[], rfl, World.ownsRow_made w #[] 0 hb (Nat.zero_le _) rfl, fun i u h => by simp at h⟩
theorem OwnX.read {w : World} {B : Nat} {v : Value} {k N : Nat} {F : Nat → Nat → Int} (h : OwnX w B v k N F) : ∃ ga c, v = .slice ga k c ∧ ∀ i, i < k → ∃ g gi ci, ga = some ⟨g, 0, none⟩ ∧ k ≤ c ∧ w.cell? ⟨g, i, none⟩ = some (.slice (some ⟨gi, 0, none⟩) N ci) ∧ N ≤ ci ∧ ∀ j, j < N → w.cell? ⟨gi, j, none⟩ = some (.int .i64 (F i j)) := by
  obtain ⟨vs, hl, ho, hc⟩ := h
  rcases ho.2 with ⟨rfl, h0⟩ | ⟨g, cap, cur, rfl, hb, hg, hnc, _⟩
  · exact ⟨none, 0, by rw [h0], fun i hi => by omega⟩
  · refine ⟨_, cap, rfl, fun i hi => ?_⟩
    have hi2 : vs[i]? = some (vs[i]'(by omega)) := List.getElem?_eq_getElem (by omega)
    obtain ⟨gi, ci, cu, h1, h2, h3, h4, h5⟩ := hc i _ hi2
    refine ⟨g, gi, ci, rfl, hnc, ?_, h2, fun j hj => ?_⟩
    · have := World.ownsRow.cellAt (h := ho) i (by omega)
      rw [this, hi2, h1]
    · unfold World.cell?; rw [h4]; exact h5 j hj
theorem ownI_cells {w : World} {B : Nat} {v : Value} {l : List Int} (h : OwnI w B v l) (h0 : 1 ≤ l.length) : ∃ g c cur, v = .slice (some ⟨g, 0, none⟩) l.length c ∧ l.length ≤ c ∧ B ≤ g ∧ w.heap[g]? = some (.cells cur 3 (0, 0)) ∧ ∀ (j : Nat) (x : Int), l[j]? = some x → cur[j]? = some (Value.int .i64 x) := by
  rcases h.2 with ⟨_, h1⟩ | ⟨g, cap, cur, hv, hb, hg, hnc, hcm, hcs, htake⟩
  · omega
  · refine ⟨g, cap, cur, hv, hnc, hb, hg, fun j x hx => ?_⟩
    have hj := (List.getElem?_eq_some_iff.1 hx).1
    have hc : (cur.toList.take (l.length * 1))[j]? = (iv l)[j]? := by rw [htake]
    rw [List.getElem?_take, if_pos (by omega), Array.getElem?_toList] at hc
    rw [hc]; simp [iv, hx]
/-- 'out = append(out, row)' -/
theorem appX {w0 : World} {ops : Array Oper} {rest : List Oper} {o : Oper} {a : Act} {Q : Exit → Act → World → Prop} (hgd : o.guard = none) (s x : Operand)
    (ho : o.op = .call { callee := .builtin .append, args := #[s, x], argTypes := #[51, 51] })
    (base : Nat) (v : Value) (k N : Nat) (F : Nat → Nat → Int) (hs : a.eval s = v) (hown : OwnX w0 base v k N F) (B2 : Nat) (row : Value) (l : List Int) (hrow : OwnI w0 B2 row l) (hl : l.length = N) (hN : 1 ≤ N) (hB2 : base ≤ B2)
    (hF : ∀ (j : Nat) (x : Int), l[j]? = some x → x = F k j)
    (hx : a.eval x = .slice (some ⟨w0.heap.size, 0, none⟩) 1 1) (hlen : k ≤ 1000000) (hbase : base ≤ w0.heap.size)
    (h : ∀ v' w', OwnX w' base v' (k + 1) N F → w0.grownBy w' v.ownBlock → wpList Try.prog ops Q rest (a.put o.dst v') w') :
    wpList Try.prog ops Q (o :: rest) a (w0.alloc (.cells #[row] 24)) := by
  obtain ⟨vs, hvl, hr, hc⟩ := hown
  obtain ⟨gr, cr, cur, hv, hlc, hbr, hgr, hcr⟩ := ownI_cells hrow (by omega)
  subst hv
  refine append1 hgd s x 51 24 ho _ 24 info_intsX Try.underlying51 rfl base v vs hs (by rw [hvl]; exact hr) (.slice (some ⟨gr, 0, none⟩) l.length cr) rfl hx (by rw [hvl]; unfold maxLen; omega) (by rw [hvl]; omega) hbase ?_
  intro v' w' ho' hg'
  refine h v' w' ⟨vs ++ [Value.slice (some ⟨gr, 0, none⟩) l.length cr], by simp [hvl], ?_, fun i u hu => ?_⟩ hg'
  · have e2 : (vs ++ [Value.slice (some ⟨gr, 0, none⟩) l.length cr]).length = k + 1 := by simp [hvl]
    rw [← e2]; exact ho'
  · rcases Nat.lt_or_ge i vs.length with hi | hi
    · rw [List.getElem?_append_left hi] at hu
      obtain ⟨gi, ci, cu, h1, h2, h3, h4, h5⟩ := hc i u hu
      have hgl := (Array.getElem?_eq_some_iff.1 h4).1
      exact ⟨gi, ci, cu, h1, h2, h3, by rw [hg'.block gi hgl (fun e => ownX_apart hr h4 e.symm)]; exact h4, h5⟩
    · rw [List.getElem?_append_right hi] at hu
      have hi0 : i - vs.length = 0 := by
        have := (List.getElem?_eq_some_iff.1 hu).1; simp at this; omega
      rw [hi0] at hu
      simp only [List.getElem?_cons_zero, Option.some.injEq] at hu
      subst hu
      have hgl := (Array.getElem?_eq_some_iff.1 hgr).1
      have hik : i = k := by omega
      refine ⟨gr, cr, cur, by rw [hl], by omega, Nat.le_trans hB2 hbr, by rw [hg'.block gr hgl (fun e => ownX_apart hr hgr e.symm)]; exact hgr, fun j hj => ?_⟩
      have hjl : l[j]? = some (l[j]'(by omega)) := List.getElem?_eq_getElem (by omega)
      rw [hcr j _ hjl, hik, hF j _ hjl]

/-- a row of the matrix, to k letters -/
def mrowL (L : List ByteArray) (i k : Nat) : List Int := (List.range k).map fun j => ((mtL L i j : Nat) : Int)
theorem mrowL_len (L : List ByteArray) (i k : Nat) : (mrowL L i k).length = k := by simp [mrowL]
theorem mrowL_succ (L : List ByteArray) (i k : Nat) : mrowL L i (k + 1) = mrowL L i k ++ [((mtL L i k : Nat) : Int)] := by simp [mrowL, List.range_succ]
theorem mrowL_get {L : List ByteArray} {i k j : Nat} {x : Int} (h : (mrowL L i k)[j]? = some x) : x = ((mtL L i j : Nat) : Int) := by
  have hj := (List.getElem?_eq_some_iff.1 h).1
  rw [mrowL_len] at hj
  simp [mrowL, hj] at h; exact h.symm
theorem mtL_at {L : List ByteArray} {i k : Nat} {x : ByteArray} (h4 : L.length ≤ 4) (hx : L[k]? = some x) : x.data.toList.count (letU i) = mtL L i k := by
  have hk := (List.getElem?_eq_some_iff.1 hx).1
  unfold mtL imL
  rw [letU_nat (by omega), Nat.add_sub_cancel, List.getD_eq_getElem?_getD, hx]; rfl
set_option maxRecDepth 20000 in
set_option maxHeartbeats 4000000 in
theorem matrix_c (ga : Option Addr) (n c : Nat) (L : List ByteArray) (w : World) (h : RdSub w ga n c L) (hok : OkL L) :
    Calls Try.prog 119 #[sbV ga n c] w fun e w' => ∃ v, e = .returned v ∧ OwnX w' w.heap.size v n n (fun i k => ((mtL L i k : Nat) : Int)) ∧ Below w.heap.size w w' := by
  have hn := h.1
  have h4 := hok.four
  have h0 := hok.one
  have hn4 : n ≤ 4 := by omega
  have hn1 : 1 ≤ n := by omega
  have HR := Lib.hid (fun W (hW : Below w.heap.size w W) => h.below hW)
  have hcnt := Lib.hid (fun x k W => show Calls Try.prog 91 #[.string x, .string (St [letU k])] W fun e w' => e = .returned (.int .i64 ((x.data.toList.count (letU k) : Nat) : Int)) ∧ w' = W from (Try.strings_Count_one x (letU k) W).mono fun e w' ⟨h, h'⟩ => ⟨h, h'⟩)
  have hmt := Lib.hid (fun i k x => @mtL_at L i k x h4)
  have HN := Lib.hid hn
  have hsb := Lib.hid (fun i k x (hx : L[k]? = some x) => show mtL L i k ≤ 8 by
    rw [← mtL_at h4 hx]
    have h1 := (hok.sz x (List.mem_of_getElem? hx)).2
    have h2 := List.count_le_length (a := letU i) (l := x.data.toList)
    rw [← size_len] at h2; omega)
  unfold sbV
  have hba : Below w.heap.size w (w.alloc (.cells #[.slice ga n c] 67)) := (Below.refl _ _).alloc (Nat.le_refl _) _
  have cw := box_cell w (.slice ga n c) 67
  obtain ⟨wa, hwa⟩ : ∃ wa, wa = w.alloc (.cells #[.slice ga n c] 67) := ⟨_, rfl⟩
  have hszw : w.heap.size < wa.heap.size := by rw [hwa]; simp
  rw [← hwa] at cw hba
  have CW := Lib.hid (fun W (hW : Below wa.heap.size wa W) => show W.cell? ⟨w.heap.size, 0, none⟩ = some (.slice ga n c) by rw [hW.cell (p := ⟨w.heap.size, 0, none⟩) hszw]; exact cw)
  have HBA := Lib.hid hba
  have HWA := Lib.hid hwa
  have hwsz : wa.heap.size = w.heap.size + 1 := by rw [HWA.out]; simp
  have hst : Hid (OwnX (wa.alloc (.cells #[] 24)) wa.heap.size (.slice (some ⟨w.heap.size + 1, 0, none⟩) 0 0) 0 n (fun i k => ((mtL L i k : Nat) : Int))) := by
    unfold Hid; rw [← hwsz]; exact ownX_empty wa n (fun i k => ((mtL L i k : Nat) : Int)) (Nat.le_refl wa.heap.size)
  clear hwsz
  clear h hwa hba cw hok hn h4 h0
  go_enter Try.func119, Try.ntmps119
  have cb := CW.out _ ((Below.refl wa.heap.size wa).alloc (Nat.le_refl _) (.cells #[] 24))
  rw [HWA.out] at cb
  go_wp2_with fail
  rw [← HWA.out]
  go_loopw [3, 12] (fun y z wr => ∃ (i : Nat) (v : Value), v = y ∧ z = .int .i64 (i : Int) ∧ i ≤ n ∧ Hid (OwnX wr wa.heap.size v i n (fun i k => ((mtL L i k : Nat) : Int))) ∧ Below wa.heap.size wa wr) (fun _ z _ => n - (intOf z).toNat)
  case atStart => exact ⟨0, _, rfl, rfl, by omega, hst, (Below.refl _ _).alloc (Nat.le_refl _) _⟩
  case round =>
    obtain ⟨i, v, rfl, rfl, hi, hown, hbr⟩ := hrel
    have hszr := hbr.size
    by_cases hlt : i < n
    · have b1 : (i : Int) < (n : Int) := by omega
      have hst2 := Lib.hid (ownI_empty wr (Nat.le_refl wr.heap.size))
      have cbr := CW.out _ (hbr.alloc hbr.size (.cells #[] 3))
      have hle := letter_abcd i (by omega)
      have c1 : (i : Int) + 1 ≤ 4 := by omega
      have c2 : (i : Int) ≤ (i : Int) + 1 := by omega
      obtain ⟨wo, rfl⟩ : ∃ wo : World, wo = wr := ⟨_, rfl⟩
      go_wp2_with fail
      go_loopw [5, 19] (fun y z wi => ∃ (k : Nat) (r : Value), r = y ∧ z = .int .i64 (k : Int) ∧ k ≤ n ∧ Hid (OwnI wi wo.heap.size r (mrowL L i k)) ∧ Below wo.heap.size wo wi) (fun _ z _ => n - (intOf z).toNat)
      case atStart => exact ⟨0, _, rfl, rfl, by omega, hst2, (Below.refl _ _).alloc (Nat.le_refl _) _⟩
      case round =>
        obtain ⟨k, r, rfl, rfl, hk, hrow, hbi⟩ := hrel
        have hbwi : Below w.heap.size w wr := HBA.out.trans ((hbr.trans (hbi.mono hszr)).mono (by omega))
        by_cases hlk : k < n
        · obtain ⟨x, hx⟩ : ∃ x, L[k]? = some x := ⟨_, List.getElem?_eq_getElem (by rw [← HN.out]; exact hlk)⟩
          obtain ⟨g, rfl, hcap, cx⟩ := (HR.out _ hbwi).get hx
          have hcall := Lib.hid (hcnt.out x i)
          rw [hmt.out i k x hx] at hcall
          have hm8 := hsb.out i k x hx
          have hsn := Lib.hid (mrowL_succ L i k)
          have hml := mrowL_len L i k
          have b2 : (k : Int) < (n : Int) := by omega
          clear hx
          go_wp2_with fail
          refine (hcall.out _).mono ?_
          rintro e w' ⟨rfl, rfl⟩
          go_wp2_with (at_builtin; refine appI rfl _ _ rfl wo.heap.size _ (mrowL L i k) rfl (by exact hrow.out) _ rfl (by omega) (by exact hbi.size) ?_; intro v' w2 hown' hg')
          go_roundw
          case rel => exact ⟨k + 1, v', rfl, by go_num, by omega, by rw [hsn.out]; exact hown', below_app hbi hrow.out hg' hbi.size⟩
          case measure => simp [intOf] <;> omega
        · obtain rfl : n = k := by omega
          have b2 : decide ((n : Int) < (n : Int)) = false := decide_eq_false (by omega)
          have hml := mrowL_len L i n
          obtain ⟨gr, cr, _, hrv, _⟩ := ownI_cells hrow.out (by omega)
          rw [hml] at hrv
          subst hrv
          have hownx := Lib.hid (hown.out.below hbi)
          have hbx : Below wa.heap.size wa wr := hbr.trans (hbi.mono hszr)
          have hszi := hbx.size
          go_wp2_with (at_builtin; refine appX rfl _ _ rfl wa.heap.size v i n (fun i k => ((mtL L i k : Nat) : Int)) rfl hownx.out wo.heap.size (.slice (some ⟨gr, 0, none⟩) n cr) (mrowL L i n) hrow.out hml hn1 hszr (fun j x hx => mrowL_get hx) rfl (by omega) hszi ?_; intro v' w2 hown' hg')
          go_roundw
          case rel => exact ⟨i + 1, v', rfl, by go_num, by omega, hown', by obtain ⟨vs, _, ho, _⟩ := hownx.out; exact hbx.grown hg' hszi fun q hq => (ho.lt q hq).1⟩
          case measure => simp [intOf] <;> omega
    · obtain rfl : n = i := by omega
      have b1 : decide ((n : Int) < (n : Int)) = false := decide_eq_false (by omega)
      have HBR := Lib.hid (HBA.out.trans (hbr.mono (by omega)))
      go_wp2_with fail
      go_ret
      exact ⟨v, rfl, hown.out.base (by omega), HBR.out⟩
end Go.Proofs.Ytlmciomoimfajaa
