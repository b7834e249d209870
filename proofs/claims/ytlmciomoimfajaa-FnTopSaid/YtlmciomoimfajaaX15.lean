/- Contracts of the reference's l02Word (with what it leaves untouched), l01Str and l03Draw: a substitution over its own letters. Conditions: the code's bytes can be read. -/
import Derived.Test.YtlmciomoimfajaaX14
import Derived.Test.YtlmciomoimfajaaV7
import Derived.Test.YtlmciomoimfajaaT2
import Derived.Deep.AppendLies
import Derived.Deep.RegionLaw
namespace Go.Proofs.Ytlmciomoimfajaa
open Go.RowKit
set_option linter.unusedVariables false

theorem grown_new {a b c : World} {g : Nat} {r : Option Nat} (h1 : a.grownBy b (some g)) (h2 : b.grownBy c r) (hr : ∀ q, r = some q → a.heap.size ≤ q) : a.grownBy c (some g) :=
  ⟨h2.os.trans h1.os, h2.tape.trans h1.tape, h2.output.trans h1.output, Nat.le_trans h1.size h2.size, fun k hk hne => (h2.block k (Nat.lt_of_lt_of_le hk h1.size) (fun e => by have := hr k e.symm; omega)).trans (h1.block k hk hne)⟩
theorem grown_wide {a b : World} {g : Nat} (h : a.grownBy b none) : a.grownBy b (some g) := ⟨h.os, h.tape, h.output, h.size, fun k hk _ => h.block k hk (by simp)⟩
theorem grown_cell {w w' : World} {g b o : Nat} {v : Value} (h : w.grownBy w' (some g)) (hc : w.cell? ⟨b, o, none⟩ = some v) (hne : b ≠ g) : w'.cell? ⟨b, o, none⟩ = some v := by
  have hb := World.block_lt_of_cell? w _ hc
  rw [← hc]
  unfold World.cell?
  rw [h.block b hb (fun e => hne (Option.some.inj e))]

set_option maxHeartbeats 2000000 in
theorem l02Word_g (B g : Nat) (a : Option Addr) (len cap : Nat) (zs : List Int) (n k : Nat) (w : World) (h : CurAt w B g a len cap zs) (hl : len ≤ 1048576) (hn : n ≤ 1000) (hk : k ≤ 4) (hk1 : 1 ≤ k) :
    Calls Try.prog 123 #[.pointer (some ⟨g, 0, none⟩), .int .i64 (n : Int), .int .i64 (k : Int)] w fun e w' => ∃ s : ByteArray, e = .returned (.string s) ∧ s.size = n ∧ letL k s.data.toList ∧ CurAt w' B g a len cap zs ∧ w.grownBy w' (some g) := by
  have hge := h.ge
  have hB0 : B ≤ w.heap.size := by omega
  have hst0 : Hid (OwnB (w.alloc (.cells #[] 5)) w.heap.size (.slice (some ⟨w.heap.size, 0, none⟩) 0 0) []) := ownB_empty w (Nat.le_refl _)
  have hc0 : Hid (CurAt (w.alloc (.cells #[] 5)) B g a len cap zs) := h.other (grown_of_alloc w _) (fun k hk => by cases hk)
  have hW := fun W (hc : CurAt W B g a len cap zs) => Lib.hid (l01Below_c B g a len cap zs k W hc hl (by omega) hk1)
  clear h
  go_enter Try.func123, Try.ntmps123
  go_wp2
  go_loopw [7, 8] (fun o z wr => ∃ (i : Nat) (acc : List UInt8) (v : Value), v = o ∧ z = .int .i64 i ∧ i ≤ n ∧ acc.length = i ∧ Hid (letL k acc) ∧ Hid (OwnB wr w.heap.size v acc) ∧ Hid (CurAt wr B g a len cap zs) ∧ Hid (w.grownBy wr (some g)) ∧ w.heap.size ≤ wr.heap.size) (fun _ z _ => n - (intOf z).toNat)
  case atStart => exact ⟨0, [], _, rfl, rfl, by omega, rfl, (fun c hc => by simp at hc), hst0, hc0, grown_wide (grown_of_alloc w _), by simp⟩
  case round =>
    obtain ⟨i, acc, v, rfl, rfl, hi, hal, hlet, hown, hcur, hbw, hsz⟩ := hrel
    by_cases hlt : i < n
    · have hcall := hW wr hcur.out
      have b1 : (i : Int) < (n : Int) := by omega
      go_wp2_with fail
      refine hcall.out.mono ?_
      rintro e w1 ⟨x, rfl, hx, hc1, hg1⟩
      have HC1 := Lib.hid hc1
      have HO1 : Hid (OwnB w1 w.heap.size v acc) := by
        refine World.ownsRow.kept hown.out hg1 ?_
        cases hv : v.ownBlock with
        | none => exact .inl rfl
        | some q =>
          refine .inr fun e => ?_
          have e' : q = g := by simpa using e
          have := (World.ownsRow.lt hown.out q hv).1
          omega
      have HB1 : Hid (w.grownBy w1 (some g)) := grown_transV hbw.out hg1
      have hsz1 := Nat.le_trans hsz hg1.size
      obtain ⟨c, hc⟩ : ∃ c : UInt8, c = UInt8.ofNat (97 + x) := ⟨_, rfl⟩
      have hcn : c.toNat = 97 + x := by rw [hc, UInt8.toNat_ofNat']; omega
      have hLN : Hid (letL k (acc ++ [c])) := fun y hy => by
        rcases List.mem_append.1 hy with hy | hy
        · exact hlet.out y hy
        · simp at hy; subst hy; omega
      have e3 : (97 : Int) + (x : Int) = (c.toNat : Int) := by omega
      have cb : c.toNat ≤ 255 := by omega
      have e4 : IntKind.i64.wrap (c.toNat : Int) = (c.toNat : Int) := IntWalk.i64_in _ (by omega)
      have e5 : IntKind.u8.wrap (c.toNat : Int) = (c.toNat : Int) := IntWalk.u8_in _ (by omega)
      clear hc1 hg1 hc hcn hx
      go_wp2_with (at_builtin; refine appB rfl _ _ rfl w.heap.size _ acc rfl (by exact HO1.out) c _ rfl rfl (by omega) (by exact hsz1) ?_; intro v2 w2 hown2 hg2)
      have HC2 : Hid (CurAt w2 B g a len cap zs) := HC1.out.other hg2 (fun q hq => by have := (World.ownsRow.lt HO1.out q hq).1; omega)
      have HB2 : Hid (w.grownBy w2 (some g)) := grown_new HB1.out hg2 (fun q hq => (World.ownsRow.lt HO1.out q hq).1)
      have HS2 : Hid (w.heap.size ≤ w2.heap.size) := Nat.le_trans hsz1 hg2.size
      have HO2 := Lib.hid hown2
      clear hown2 hg2
      go_roundw
      case rel => exact ⟨i + 1, acc ++ [c], v2, rfl, by go_num, by omega, by simp; omega, hLN, HO2, HC2, HB2, HS2.out⟩
      case measure => simp [intOf] <;> omega
    · obtain rfl : i = n := by omega
      have hcv := conv_own hown.out
      have hz : (St acc).size = i := by rw [St_size, hal]
      have HLET := Lib.hid hlet.out
      go_wp2
      go_ret
      exact ⟨_, rfl, hz, HLET.out, hcur.out, hbw.out⟩

set_option maxHeartbeats 2000000 in
theorem l01Str_c (B g : Nat) (a : Option Addr) (len cap : Nat) (zs : List Int) (gl m cc : Nat) (L : List ByteArray) (w : World) (h : CurAt w B g a len cap zs) (hl : len ≤ 1048576) (hm : L.length = m) (h1 : 1 ≤ m) (h2 : m ≤ 256) (hgl : gl ≠ g) (hrow : ∀ j x, L[j]? = some x → w.cell? ⟨gl, j, none⟩ = some (.string x)) :
    Calls Try.prog 136 #[.pointer (some ⟨g, 0, none⟩), .slice (some ⟨gl, 0, none⟩) m cc] w fun e w' => ∃ (j : Nat) (x : ByteArray), L[j]? = some x ∧ e = .returned (.string x) ∧ CurAt w' B g a len cap zs ∧ w.grownBy w' (some g) := by
  have hW := Lib.hid (l01Below_c B g a len cap zs m w h hl h2 h1)
  have HM := Lib.hid hm
  have HROW := Lib.hid hrow
  clear h hm hrow
  go_enter Try.func136, Try.ntmps136
  go_wp2_with fail
  refine hW.out.mono ?_
  rintro e w1 ⟨j, rfl, hj, hc1, hg1⟩
  obtain ⟨x, hx⟩ : ∃ x, L[j]? = some x := ⟨L[j]'(by rw [HM.out]; exact hj), List.getElem?_eq_getElem _⟩
  have hcell : w1.cell? ⟨gl, j, none⟩ = some (.string x) := grown_cell hg1 (HROW.out j x hx) hgl
  have HX := Lib.hid hx
  have HC1 := Lib.hid hc1
  have HG1 := Lib.hid hg1
  clear hx hc1 hg1
  go_wp2
  go_ret
  exact ⟨j, x, HX.out, rfl, HC1.out, HG1.out⟩

theorem grown_none {w w' : World} {r : Option Nat} (h : w.grownBy w' none) : w.grownBy w' r := ⟨h.os, h.tape, h.output, h.size, fun k hk _ => h.block k hk (by simp)⟩
theorem grown_drawn (w : World) : w.grownBy w.drew none := ⟨rfl, rfl, rfl, Nat.le_refl _, fun _ _ _ => rfl⟩
theorem ownS_kept {w w' : World} {B : Nat} {v : Value} {l : List ByteArray} {r : Option Nat} (h : OwnS w B v l) (hg : w.grownBy w' r) (hr : ∀ q, r = some q → q < B) : OwnS w' B v l := by
  refine World.ownsRow.kept h hg ?_
  cases hv : v.ownBlock with
  | none => exact .inl rfl
  | some q => exact .inr fun e => by have := (World.ownsRow.lt h q hv).1; have := hr q e.symm; omega
theorem ownS_alloc {w : World} {B : Nat} {v : Value} {l : List ByteArray} (h : OwnS w B v l) (o : Obj) : OwnS (w.alloc o) B v l := World.ownsRow.alloc h o
theorem heap_setc {w : World} {b : Nat} {x : Value} {t : TypeId} (h : w.heap[b]? = some (.cells #[x] t (0, 0))) (v : Value) : (w.setCell ⟨b, 0, none⟩ v).heap[b]? = some (.cells #[v] t (0, 0)) := by
  simp [World.setCell, Array.getElem?_modify, h]
/-- 'out = append(out, x)' of a string at a step of a region that draws -/
theorem stepS {w0 : World} {ops : Array Oper} {o : Oper} {a : Act} {K : Act → World → Prop} {Q : Exit → Act → World → Prop} {E : Prop} (hgd : o.guard = none) (s x : Operand)
    (ho : o.op = .call { callee := .builtin .append, args := #[s, x], argTypes := #[43, 43] })
    (base n : Nat) (v : Value) (l : List ByteArray) (hs : a.eval s = v) (hown : OwnS w0 base v l) (hn : l.length = n) (y : ByteArray)
    (hx : a.eval x = .slice (some ⟨w0.heap.size, 0, none⟩) 1 1) (hlen : n ≤ 1000000) (hbase : base ≤ w0.heap.size)
    (h : ∀ q cap w', OwnS w' base (.slice (some ⟨q, 0, none⟩) (n + 1) cap) (l ++ [y]) → w0.grownBy w' v.ownBlock → K (a.put o.dst (.slice (some ⟨q, 0, none⟩) (n + 1) cap)) w') :
    if Region.wanted o (yielded ops a.tmps) = true then Oper.wp Try.prog o a (w0.alloc (.cells #[.string y] 9)) K Q else E := by
  obtain ⟨i, hi, hz, h1, h2⟩ := info_parts info_str
  have e : sv l ++ [.string y] = sv (l ++ [y]) := by simp [sv]
  have hown' : (w0.alloc (.cells #[.string y] 9)).ownsRow base 9 1 v n (sv l) := by rw [← hn]; exact World.ownsRow.alloc hown _
  refine step_append_lies _ hgd s x 43 ho base 9 i _ 1 16 Try.underlying43 hi hz h1 h2 rfl (by decide) v n (sv l) hs hown' ⟨w0.heap.size, 0, none⟩ 1 1 [.string y] hx rfl (one_new w0 _ _) (fun u hu => by simp at hu; subst hu; rfl) (by decide) (by unfold maxLen; omega) (by omega) (by simp; omega) _ rfl ?_
  intro g cap w' ho' hg' _ _
  rw [e] at ho'
  exact h g cap w' (by unfold OwnS; simpa [hn] using ho') (grown_alloc hg')
/-- a row of strings that has just been made -/
theorem row_lits (w : World) (l : List ByteArray) (t : TypeId) : ∀ j x, l[j]? = some x → (w.alloc (.cells (sv l).toArray t)).cell? ⟨w.heap.size, j, none⟩ = some (.string x) := by
  intro j x hx
  unfold World.cell?
  rw [heap_alloc_new]
  simp [sv, hx]
def nms : List ByteArray := [nmB 0, nmB 1, nmB 2, nmB 3, nmB 4, nmB 5, nmB 6]
theorem nms_get {j : Nat} {x : ByteArray} (h : nms[j]? = some x) : j < 7 ∧ x = nmB j := by
  have hj : j < 7 := (List.getElem?_eq_some_iff.1 h).1
  refine ⟨hj, ?_⟩
  rcases (show j = 0 ∨ j = 1 ∨ j = 2 ∨ j = 3 ∨ j = 4 ∨ j = 5 ∨ j = 6 by omega) with rfl | rfl | rfl | rfl | rfl | rfl | rfl <;> exact (Option.some.inj h).symm
theorem lsB_ok {j : Nat} (hj : j < 7) : OkL (lsB j) := by
  rcases (show j = 0 ∨ j = 1 ∨ j = 2 ∨ j = 3 ∨ j = 4 ∨ j = 5 ∨ j = 6 by omega) with rfl | rfl | rfl | rfl | rfl | rfl | rfl <;> exact okL_dec (by decide +kernel)
set_option maxRecDepth 20000 in
set_option maxHeartbeats 4000000 in
theorem l03Draw_c (B g : Nat) (a : Option Addr) (len cap : Nat) (zs : List Int) (w : World) (h : CurAt w B g a len cap zs) (hl : len ≤ 1048576) :
    Calls Try.prog 114 #[.pointer (some ⟨g, 0, none⟩)] w fun e w' => ∃ ga c L, e = .returned (sbV ga L.length c) ∧ OwnS w' w.heap.size (.slice ga L.length c) L ∧ OkL L ∧ Below B w w' := by
  have hge := h.ge
  obtain ⟨wz, hwz⟩ : ∃ wz, wz = w.alloc (.cells #[.slice none 0 0] 67) := ⟨_, rfl⟩
  have hgz : Hid (w.grownBy wz (some g)) := by rw [hwz]; exact grown_wide (grown_of_alloc w _)
  have hsz : wz.heap.size = w.heap.size + 1 := by rw [hwz]; simp
  have hhz : Hid (wz.heap[w.heap.size]? = some (.cells #[.slice none 0 0] 67 (0, 0))) := by rw [hwz]; exact heap_alloc_new w _
  have hcz : Hid (CurAt wz B g a len cap zs) := by rw [hwz]; exact h.other (grown_of_alloc w _) (fun k hk => by cases hk)
  have hon := Lib.hid (l01Once_c B g a len cap zs 2 wz hcz.out hl (by omega) (by omega))
  have HWZ := Lib.hid hwz
  have key : ∀ (W : World) (ga : Option Addr) (n c : Nat) (L : List ByteArray), OwnS W (w.heap.size + 1) (.slice ga n c) L → Below B w W → W.heap[w.heap.size]? = some (.cells #[.slice none 0 0] 67 (0, 0)) → W.cell? ⟨w.heap.size, 0, none⟩ = some (.slice none 0 0) ∧ W.frozen? ⟨w.heap.size, 0, none⟩ = false ∧ (W.setCell ⟨w.heap.size, 0, none⟩ (.slice ga n c)).cell? ⟨w.heap.size, 0, none⟩ = some (.slice ga n c) ∧ OwnS (W.setCell ⟨w.heap.size, 0, none⟩ (.slice ga n c)) w.heap.size (.slice ga n c) L ∧ Below B w (W.setCell ⟨w.heap.size, 0, none⟩ (.slice ga n c)) := by
    intro W ga n c L ho hb hh
    obtain ⟨r3, r4⟩ := heap_cell hh
    refine ⟨r3, r4, World.cell?_setCell_same W ⟨w.heap.size, 0, none⟩ (.slice ga n c) r3, ?_, hb.setCell (p := ⟨w.heap.size, 0, none⟩) (show B ≤ w.heap.size by omega) _⟩
    refine own_baseX (World.ownsRow.kept ho (grown_setc W w.heap.size 0 _) ?_) (by omega)
    cases hq : (Value.slice ga n c).ownBlock with
    | none => exact .inl rfl
    | some q => exact .inr (by have := (World.ownsRow.lt ho q hq).1; intro e; cases e; omega)
  have KEY := Lib.hid key
  clear hwz h key
  go_enter Try.func114, Try.ntmps114
  go_wp2_with fail
  rw [← HWZ.out]
  refine hon.out.mono ?_
  rintro e w1 ⟨b, rfl, hc1, hg1⟩
  have HG1 := Lib.hid (grown_transV hgz.out hg1)
  have HH1 : Hid (w1.heap[w.heap.size]? = some (.cells #[.slice none 0 0] 67 (0, 0))) := by rw [hg1.block _ (by omega) (fun e => by cases e; omega)]; exact hhz.out
  have HS1 := hg1.size
  have HC1 := Lib.hid hc1
  clear hc1 hg1
  cases b with
  | true =>
    have hstr : Hid (Calls Try.prog 136 #[.pointer (some ⟨g, 0, none⟩), .slice (some ⟨w1.heap.size, 0, none⟩) 7 7] (w1.alloc (.cells #[.string ⟨#[102, 105, 98, 111, 110, 97, 99, 99, 105]⟩, .string ⟨#[116, 104, 117, 101]⟩, .string ⟨#[100, 111, 117, 98, 108, 105, 110, 103]⟩, .string ⟨#[116, 114, 105, 98, 111, 110, 97, 99, 99, 105]⟩, .string ⟨#[115, 105, 108, 118, 101, 114]⟩, .string ⟨#[115, 113, 117, 97, 114, 101, 102, 114, 101, 101]⟩, .string ⟨#[114, 117, 100, 105, 110]⟩] 9)) fun e w' => ∃ (j : Nat) (x : ByteArray), nms[j]? = some x ∧ e = .returned (.string x) ∧ CurAt w' B g a len cap zs ∧ (w1.alloc (.cells (sv nms).toArray 9)).grownBy w' (some g)) :=
      l01Str_c B g a len cap zs w1.heap.size 7 7 nms (w1.alloc (.cells (sv nms).toArray 9)) (HC1.out.other (grown_of_alloc w1 _) (fun k hk => by cases hk)) hl rfl (by omega) (by omega) (by omega) (row_lits w1 nms _)
    go_wp2_with fail
    refine hstr.out.mono ?_
    rintro e w2 ⟨j, x, hj, rfl, hc2, hg2⟩
    obtain ⟨hj7, rfl⟩ := nms_get hj
    have hS2 : w1.heap.size + 1 ≤ w2.heap.size := by have := hg2.size; simpa using this
    have HG2 : Hid (w.grownBy w2 (some g)) := grown_transV (grown_new HG1.out (grown_of_alloc w1 _) (fun q hq => by cases hq)) hg2
    have HH2 : Hid (w2.heap[w.heap.size]? = some (.cells #[.slice none 0 0] 67 (0, 0))) := by
      rw [hg2.block _ (by simp; omega) (fun e => by cases e; omega), Below.heap_alloc w1 _ _ (by omega)]; exact HH1.out
    have hnam := Lib.hid (namedSubst_s j hj7 w2)
    have hok := Lib.hid (lsB_ok hj7)
    obtain ⟨L, hL⟩ : ∃ L, L = lsB j := ⟨_, rfl⟩
    obtain ⟨nm, hnm⟩ : ∃ nm, nm = nmB j := ⟨_, rfl⟩
    obtain ⟨n, hn⟩ : ∃ n, n = L.length := ⟨_, rfl⟩
    have HN := Lib.hid hn
    unfold sbV at hnam
    rw [← hL, ← hnm, ← hn] at hnam
    rw [← hL] at hok
    rw [← hnm]
    clear hc2 hg2 hL hnm hj hn
    go_wp2_with fail
    refine hnam.out.mono ?_
    rintro e w3 ⟨ga, c, rfl, ho, hb⟩
    have hS3 := hb.size
    have HG3 : Hid (Below B w w3) := (cur_below HG2.out hge.1 (by omega)).trans (hb.mono (by omega))
    have hh3 : w3.heap[w.heap.size]? = some (.cells #[.slice none 0 0] 67 (0, 0)) := by rw [hb.block _ (by omega)]; exact HH2.out
    obtain ⟨wb, hwb⟩ : ∃ wb, wb = w3.alloc (.cells #[.slice ga n c] 67) := ⟨_, rfl⟩
    obtain ⟨q3, q4, q5, q6, q7⟩ := KEY.out wb ga n c L (by rw [hwb]; exact ownS_alloc (own_baseX ho (by omega)) _) (by rw [hwb]; exact HG3.out.alloc (by omega) _) (by rw [hwb, Below.heap_alloc w3 _ _ (by omega)]; exact hh3)
    rw [hwb] at q3 q4
    have HWB := Lib.hid hwb
    have HQ6 := Lib.hid q6
    have HQ7 := Lib.hid q7
    clear ho hb hh3 q6 q7 hwb
    go_wp2_with fail
    rw [← HWB.out]
    refine bodyPost_ret (v := .agg #[.slice ga n c]) (by simp [results, Try.results114, go_sem, q5]) rfl ?_
    exact ⟨ga, c, L, by rw [← HN.out]; rfl, by rw [← HN.out]; exact HQ6.out, hok.out, HQ7.out⟩
  | false =>
    have hb3 := Lib.hid (l01Below_c B g a len cap zs 3 w1 HC1.out hl (by omega) (by omega))
    go_wp2_with fail
    refine hb3.out.mono ?_
    rintro e w2 ⟨x, rfl, hx, hc2, hg2⟩
    obtain ⟨m, hm⟩ : ∃ m : Nat, m = 1 + x := ⟨_, rfl⟩
    have hm1 : 1 ≤ m := by omega
    have hm3 : m ≤ 3 := by omega
    have e1 : (1 : Int) + (x : Int) = (m : Int) := by omega
    have e1' : (x : Int) + 1 = (m : Int) := by omega
    have e2 : IntKind.i64.wrap (m : Int) = (m : Int) := IntWalk.i64_in _ (by omega)
    have HG2 : Hid (w.grownBy w2 (some g)) := grown_transV HG1.out hg2
    have HC2 := Lib.hid hc2
    have hS2 := hg2.size
    have HH2 : Hid (w2.heap[w.heap.size]? = some (.cells #[.slice none 0 0] 67 (0, 0))) := by rw [hg2.block _ (by omega) (fun e => by cases e; omega)]; exact HH1.out
    obtain ⟨cb, hcb⟩ : ∃ cb, cb = w2.heap.size := ⟨_, rfl⟩
    have hcb1 : w.heap.size < cb := by omega
    have hat : Hid (OwnS (w2.alloc (.cells #[.slice none 0 0] 67)) (cb + 1) (.slice none 0 0) [] ∧ (w2.alloc (.cells #[.slice none 0 0] 67)).heap[cb]? = some (.cells #[.slice none 0 0] 67 (0, 0)) ∧ CurAt (w2.alloc (.cells #[.slice none 0 0] 67)) B g a len cap zs ∧ w.grownBy (w2.alloc (.cells #[.slice none 0 0] 67)) (some g) ∧ (w2.alloc (.cells #[.slice none 0 0] 67)).heap[w.heap.size]? = some (.cells #[.slice none 0 0] 67 (0, 0)) ∧ cb < (w2.alloc (.cells #[.slice none 0 0] 67)).heap.size) :=
      ⟨World.ownsRow_nil _ _ _ _, by rw [hcb]; exact heap_alloc_new w2 _, HC2.out.other (grown_of_alloc w2 _) (fun k hk => by cases hk), grown_new HG2.out (grown_of_alloc w2 _) (fun q hq => by cases hq), by rw [Below.heap_alloc w2 _ _ (by omega)]; exact HH2.out, by simp; omega⟩
    have hbel := Lib.hid (fun W (hc : CurAt W B g a len cap zs) => l01Below_c B g a len cap zs 4 W hc hl (by omega) (by omega))
    have hwrd := Lib.hid (fun (k : Nat) W (hk : k ≤ 4) (hc : CurAt W B g a len cap zs) => l02Word_g B g a len cap zs k m W hc hl (by omega) (by omega) hm1)
    have HCB := Lib.hid hcb
    clear hc2 hg2 hx hm
    go_wp2_with fail
    rw [← HCB.out]
    clear hcb e1 e1' e2
    go_loopw [7] (fun z wr => ∃ (i : Nat) (L : List ByteArray) (ga : Option Addr) (c : Nat), z = .int .i64 i ∧ i ≤ m ∧ L.length = i ∧ Hid (∀ y ∈ L, 1 ≤ y.size ∧ y.size ≤ 4 ∧ letL m y.data.toList) ∧ Hid (OwnS wr (cb + 1) (.slice ga i c) L) ∧ Hid (wr.heap[cb]? = some (.cells #[.slice ga i c] 67 (0, 0))) ∧ Hid (CurAt wr B g a len cap zs) ∧ Hid (w.grownBy wr (some g)) ∧ Hid (wr.heap[w.heap.size]? = some (.cells #[.slice none 0 0] 67 (0, 0))) ∧ cb < wr.heap.size) (fun z _ => m - (intOf z).toNat)
    case atStart =>
      obtain ⟨k1, k2, k3, k4, k5, k6⟩ := hat.out
      exact ⟨0, [], none, 0, rfl, by omega, rfl, (fun y hy => by cases hy), k1, k2, k3, k4, k5, k6⟩
    case round =>
      obtain ⟨i, L, ga, c, rfl, hi, hLi, hlet, hown, hbox, hcur, hgw, hres, hszr⟩ := hrel
      have HLI := Lib.hid hLi
      clear hLi
      obtain ⟨wo, rfl⟩ : ∃ wo : World, wo = wr := ⟨_, rfl⟩
      by_cases hlt : i < m
      · have b1 : (i : Int) < (m : Int) := by omega
        obtain ⟨p1, p2⟩ := heap_cell hbox.out
        have hcd : Hid (CurAt wo.drew B g a len cap zs) := hcur.out.other (grown_drawn wo) (fun k hk => by cases hk)
        have hcl1 := Lib.hid (hbel.out wo.drew hcd.out)
        have BX := Lib.hid (fun W (hW : wo.grownBy W (some g)) => show W.heap[cb]? = some (.cells #[.slice ga i c] 67 (0, 0)) by rw [hW.block _ hszr (fun e => by cases e; omega)]; exact hbox.out)
        go_wp2_with fail
        go_region_law (first | (refine stepS (w0 := w5) rfl (.tmp 28) (.tmp 35) rfl (cb + 1) i (.slice ga i c) L (by first | rfl | simp [Act.eval]) ho5.out HLI.out y (by first | rfl | simp [Act.eval]) (by omega) (by omega) ?_; intro q cp w6 ho6 hg6; have hb6 : Hid (w6.heap[cb]? = some (.cells #[.slice ga i c] 67 (0, 0))) := (by unfold Hid; rw [hg6.block cb (by omega) (fun e => by have := (World.ownsRow.lt ho5.out cb e.symm).1; omega)]; exact BX.out w5 hg05.out); obtain ⟨p7, p8⟩ := heap_cell hb6.out) | (go_simp; go_at_call 87; refine hcl1.out.mono ?_; rintro e w4 ⟨x1, rfl, hx1, hc4, hg4⟩; obtain ⟨k1, hk1⟩ : ∃ k1 : Nat, k1 = 1 + x1 := ⟨_, rfl⟩; have f1 : (1 : Int) + (x1 : Int) = (k1 : Int) := (by omega); have f2 : IntKind.i64.wrap (k1 : Int) = (k1 : Int) := IntWalk.i64_in _ (by omega); have hg04 := Lib.hid (grown_transV (grown_none (grown_drawn wo)) hg4); obtain ⟨p3, p4⟩ := heap_cell (BX.out w4 hg04.out); have hcl2 := Lib.hid (hwrd.out k1 w4 (by omega) hc4); have HK1 := Lib.hid hk1; clear hc4 hg4 hk1) | (go_simp; go_at_call 123; refine hcl2.out.mono ?_; rintro e w5 ⟨y, rfl, hy1, hy2, hc5, hg5⟩; have hg05 := Lib.hid (grown_transV hg04.out hg5); obtain ⟨p5, p6⟩ := heap_cell (BX.out w5 hg05.out); have HY1 := Lib.hid hy1; have HY2 := Lib.hid hy2; have HC5 := Lib.hid hc5; have ho5 : Hid (OwnS w5 (cb + 1) (.slice ga i c) L) := ownS_kept hown.out hg05.out (fun q hq => by cases hq; omega); have hS5 := hg05.out.size; have p9 : (w5.alloc (.cells #[.string y] 9)).cell? ⟨cb, 0, none⟩ = some (.slice ga i c) := (heap_cell (by rw [Below.heap_alloc w5 _ _ (by omega)]; exact BX.out w5 hg05.out)).1; clear hy1 hy2 hc5 hg5))
        all_goals
          have hrow : ∀ q2, (Value.slice ga i c).ownBlock = some q2 → cb + 1 ≤ q2 := fun q2 e => (World.ownsRow.lt ho5.out q2 e).1
          have hLN : Hid (∀ z ∈ L ++ [y], 1 ≤ z.size ∧ z.size ≤ 4 ∧ letL m z.data.toList) := fun z hz => by
            rcases List.mem_append.1 hz with hz | hz
            · exact hlet.out z hz
            · simp at hz
              subst hz
              have h1 := HY1.out
              have h2 := HK1.out
              exact ⟨by omega, by omega, HY2.out⟩
          have hSC := grown_setc w6 cb 0 (.slice (some ⟨q, 0, none⟩) (i + 1) cp)
          have hO : Hid (OwnS (w6.setCell ⟨cb, 0, none⟩ (.slice (some ⟨q, 0, none⟩) (i + 1) cp)) (cb + 1) (.slice (some ⟨q, 0, none⟩) (i + 1) cp) (L ++ [y])) := ownS_kept ho6 hSC (fun q2 e => by cases e; omega)
          have hB : Hid ((w6.setCell ⟨cb, 0, none⟩ (.slice (some ⟨q, 0, none⟩) (i + 1) cp)).heap[cb]? = some (.cells #[.slice (some ⟨q, 0, none⟩) (i + 1) cp] 67 (0, 0))) := heap_setc hb6.out _
          have hC : Hid (CurAt (w6.setCell ⟨cb, 0, none⟩ (.slice (some ⟨q, 0, none⟩) (i + 1) cp)) B g a len cap zs) := (HC5.out.other hg6 (fun q2 e => by have := hrow q2 e; omega)).other hSC (fun q2 e => by cases e; omega)
          have hG6 : w.grownBy w6 (some g) := grown_new (grown_transV hgw.out hg05.out) hg6 (fun q2 e => by have := hrow q2 e; omega)
          have hG : Hid (w.grownBy (w6.setCell ⟨cb, 0, none⟩ (.slice (some ⟨q, 0, none⟩) (i + 1) cp)) (some g)) := grown_new hG6 hSC (fun q2 e => by cases e; omega)
          have hR : Hid ((w6.setCell ⟨cb, 0, none⟩ (.slice (some ⟨q, 0, none⟩) (i + 1) cp)).heap[w.heap.size]? = some (.cells #[.slice none 0 0] 67 (0, 0))) := by
            have h6 := hg6.size
            unfold Hid
            rw [hSC.block _ (by omega) (fun e => by cases e; omega), hg6.block _ (by omega) (fun e => by have := hrow _ e.symm; omega), hg05.out.block _ (by omega) (fun e => by cases e; omega)]
            exact hres.out
          have hZ : Hid (cb < (w6.setCell ⟨cb, 0, none⟩ (.slice (some ⟨q, 0, none⟩) (i + 1) cp)).heap.size) := by
            have h6 := hg6.size
            have h7 := hSC.size
            unfold Hid; omega
          clear hrow hSC hG6 ho6 hg6
          go_wp2_with fail
          go_roundw
          case rel => exact ⟨i + 1, L ++ [y], some ⟨q, 0, none⟩, cp, by go_num, by omega, by rw [List.length_append, HLI.out]; rfl, hLN, hO, hB, hC, hG, hR, hZ.out⟩
          case measure => simp [intOf] <;> omega
      · obtain rfl : i = m := by omega
        have b1 : ¬ ((i : Int) < (i : Int)) := by omega
        obtain ⟨p1, p2⟩ := heap_cell hbox.out
        obtain ⟨q3, q4, q5, q6, q7⟩ := KEY.out wo ga i c L (own_baseX hown.out (by omega)) (cur_below hgw.out hge.1 (by omega)) hres.out
        have HQ6 := Lib.hid q6
        have HQ7 := Lib.hid q7
        clear q6 q7
        go_wp2_with fail
        refine bodyPost_ret (v := .agg #[.slice ga i c]) (by simp [results, Try.results114, go_sem, q5]) rfl ?_
        exact ⟨ga, c, L, by rw [HLI.out]; rfl, by rw [HLI.out]; exact HQ6.out, ⟨by rw [HLI.out]; omega, by rw [HLI.out]; omega, fun y hy => by have := (hlet.out y hy).1; have := (hlet.out y hy).2.1; omega, fun y hy d hd => by unfold inL; rw [HLI.out]; exact (hlet.out y hy).2.2 d hd⟩, HQ7.out⟩
end Go.Proofs.Ytlmciomoimfajaa
