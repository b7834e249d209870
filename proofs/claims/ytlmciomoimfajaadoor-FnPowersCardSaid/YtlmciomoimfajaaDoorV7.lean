/- Contracts of the laws' generator of words: l01Once, l02Word, l02Draw, MakeWord: a word of the first three letters, of at most 'most' letters. Conditions: the code's bytes can be read. -/
import Derived.Test.YtlmciomoimfajaaDoorV3
import Derived.Test.YtlmciomoimfajaaDoorB1
import Derived.OwnWalk
namespace Go.Proofs.YtlmciomoimfajaaDoor
open Go.RowKit
set_option linter.unusedVariables false

/-- all bytes are among the first k letters -/
def letL (k : Nat) (l : List UInt8) : Prop := ∀ c ∈ l, 97 ≤ c.toNat ∧ c.toNat < 97 + k
theorem letL_word {k : Nat} {l : List UInt8} (h : letL k l) (hk : k ≤ 4) (hl : l.length ≤ 400) : wordL l = true :=
  wordL_mk (fun c hc => by have := h c hc; exact abcd_iff.2 (by omega)) hl
theorem row_grown2 {w w' : World} {a : Option Addr} {len cap : Nat} {zs : List Int} {r : Option Nat} (h : IsRow .u8 w a len cap zs) (hg : ∀ x, a = some x → zs ≠ [] → r ≠ some x.block) (hw : w.grownBy w' r) : IsRow .u8 w' a len cap zs := by
  rcases h with h | ⟨x, h1, h2, h3, h4, h5, h6⟩
  · exact .inl h
  · refine .inr ⟨x, h1, h2, h3, h4, fun i hi => ?_, h6⟩
    have hc := h5 i hi
    have hb := World.block_lt_of_cell? w _ hc
    have hx : (x.add i).block = x.block := by unfold Addr.add; split <;> rfl
    rw [← hc]
    unfold World.cell?
    rw [hw.block _ hb (fun e => hg x h1 (by intro e0; rw [e0] at hi; simp at hi) (by rw [← hx]; exact e.symm))]
theorem CurAt.other {w w' : World} {B g : Nat} {a : Option Addr} {len cap : Nat} {zs : List Int} {r : Option Nat} (h : CurAt w B g a len cap zs) (hg : w.grownBy w' r) (hr : ∀ k, r = some k → g < k) : CurAt w' B g a len cap zs := by
  have hge := h.ge
  obtain ⟨⟨h1, h2⟩, i, x, hi, ho⟩ := h
  refine ⟨⟨row_grown2 h1 (fun y hy hz e => by have := h2 y hy hz; have := hr _ e; omega) hg, h2⟩, i, x, hi, ho.kept hg ?_⟩
  cases r with
  | none => exact .inr (by simp [Value.ownBlock])
  | some k =>
    refine .inr fun e => ?_
    have e' : g = k := by simpa [Value.ownBlock] using e
    have := hr k rfl
    omega
theorem grown_of_alloc (w : World) (o : Obj) : w.grownBy (w.alloc o) none := ⟨rfl, rfl, rfl, by simp, fun k hk _ => Below.heap_alloc w o k hk⟩

set_option maxHeartbeats 1000000 in
theorem l01Once_c (B g : Nat) (a : Option Addr) (len cap : Nat) (zs : List Int) (n : Nat) (w : World) (h : CurAt w B g a len cap zs) (hl : len ≤ 1048576) (hn : n ≤ 256) (hn1 : 1 ≤ n) :
    Calls Tryd.prog 39 #[.pointer (some ⟨g, 0, none⟩), .int .i64 (n : Int)] w fun e w' => ∃ b : Bool, e = .returned (.bool b) ∧ CurAt w' B g a len cap zs ∧ w.grownBy w' (some g) := by
  have h1 := Lib.hid (l01Below_c B g a len cap zs n w h hl hn hn1)
  clear h
  go_enter Tryd.func39, Tryd.ntmps39
  go_wp2_with fail
  refine h1.out.mono ?_
  rintro e w' ⟨x, rfl, hx, hc, hg⟩
  have HC := Lib.hid hc
  have HG := Lib.hid hg
  clear hc hg
  go_wp2_with fail
  go_ret
  exact ⟨_, rfl, HC.out, HG.out⟩

set_option maxHeartbeats 2000000 in
theorem l02Word_c (B g : Nat) (a : Option Addr) (len cap : Nat) (zs : List Int) (n k : Nat) (w : World) (h : CurAt w B g a len cap zs) (hl : len ≤ 1048576) (hn : n ≤ 1000) (hk : k ≤ 4) (hk1 : 1 ≤ k) :
    Calls Tryd.prog 38 #[.pointer (some ⟨g, 0, none⟩), .int .i64 (n : Int), .int .i64 (k : Int)] w fun e w' => ∃ s : ByteArray, e = .returned (.string s) ∧ s.size = n ∧ letL k s.data.toList ∧ CurAt w' B g a len cap zs ∧ Below B w w' := by
  have hge := h.ge
  have hB0 : B ≤ w.heap.size := by omega
  have hst0 : Hid (OwnB (w.alloc (.cells #[] 5)) w.heap.size (.slice (some ⟨w.heap.size, 0, none⟩) 0 0) []) := ownB_empty w (Nat.le_refl _)
  have hc0 : Hid (CurAt (w.alloc (.cells #[] 5)) B g a len cap zs) := h.other (grown_of_alloc w _) (fun k hk => by cases hk)
  have hW := fun W (hc : CurAt W B g a len cap zs) => Lib.hid (l01Below_c B g a len cap zs k W hc hl (by omega) hk1)
  clear h
  go_enter Tryd.func38, Tryd.ntmps38
  go_wp2
  go_loopw [7, 8] (fun o z wr => ∃ (i : Nat) (acc : List UInt8) (v : Value), v = o ∧ z = .int .i64 i ∧ i ≤ n ∧ acc.length = i ∧ Hid (letL k acc) ∧ Hid (OwnB wr w.heap.size v acc) ∧ Hid (CurAt wr B g a len cap zs) ∧ Below B w wr ∧ w.heap.size ≤ wr.heap.size) (fun _ z _ => n - (intOf z).toNat)
  case atStart => exact ⟨0, [], _, rfl, rfl, by omega, rfl, (fun c hc => by simp at hc), hst0, hc0, (Below.refl _ _).alloc hB0 _, by simp⟩
  case round =>
    obtain ⟨i, acc, v, rfl, rfl, hi, hal, hlet, hown, hcur, hbw, hsz⟩ := hrel
    by_cases hlt : i < n
    · have hcall := hW wr hcur.out
      have b1 : (i : Int) < (n : Int) := by omega
      go_wp2_with fail
      refine hcall.out.mono ?_
      rintro e w1 ⟨x, rfl, hx, hc1, hg1⟩
      have HC1 := Lib.hid hc1
      have HO1 : Hid (OwnB w1 w.heap.size v acc) := by
        refine World.ownsRow.kept hown.out hg1 ?_
        cases hv : v.ownBlock with
        | none => exact .inl rfl
        | some q =>
          refine .inr fun e => ?_
          have e' : q = g := by simpa using e
          have := (World.ownsRow.lt hown.out q hv).1
          omega
      have HB1 : Hid (Below B w w1) := hbw.grown hg1 (Nat.le_trans hB0 hsz) (fun q hq => by cases hq; omega)
      have hsz1 := Nat.le_trans hsz hg1.size
      obtain ⟨c, hc⟩ : ∃ c : UInt8, c = UInt8.ofNat (97 + x) := ⟨_, rfl⟩
      have hcn : c.toNat = 97 + x := by rw [hc, UInt8.toNat_ofNat']; omega
      have hLN : Hid (letL k (acc ++ [c])) := fun y hy => by
        rcases List.mem_append.1 hy with hy | hy
        · exact hlet.out y hy
        · simp at hy; subst hy; omega
      have e3 : (97 : Int) + (x : Int) = (c.toNat : Int) := by omega
      have cb : c.toNat ≤ 255 := by omega
      have e4 : IntKind.i64.wrap (c.toNat : Int) = (c.toNat : Int) := IntWalk.i64_in _ (by omega)
      have e5 : IntKind.u8.wrap (c.toNat : Int) = (c.toNat : Int) := IntWalk.u8_in _ (by omega)
      clear hc1 hg1 hc hcn hx
      go_wp2_with (at_builtin; refine appB rfl _ _ rfl w.heap.size _ acc rfl (by exact HO1.out) c _ rfl rfl (by omega) (by exact hsz1) ?_; intro v2 w2 hown2 hg2)
      have HC2 : Hid (CurAt w2 B g a len cap zs) := HC1.out.other hg2 (fun q hq => by have := (World.ownsRow.lt HO1.out q hq).1; omega)
      have HB2 : Hid (Below B w w2) := HB1.out.grown hg2 (by omega) (fun q hq => by have := (World.ownsRow.lt HO1.out q hq).1; omega)
      have HS2 : Hid (w.heap.size ≤ w2.heap.size) := Nat.le_trans hsz1 hg2.size
      have HO2 := Lib.hid hown2
      clear hown2 hg2
      go_roundw
      case rel => exact ⟨i + 1, acc ++ [c], v2, rfl, by go_num, by omega, by simp; omega, hLN, HO2, HC2, HB2.out, HS2.out⟩
      case measure => simp [intOf] <;> omega
    · obtain rfl : i = n := by omega
      have hcv := conv_own hown.out
      have hz : (St acc).size = i := by rw [St_size, hal]
      have HLET := Lib.hid hlet.out
      go_wp2
      go_ret
      exact ⟨_, rfl, hz, HLET.out, hcur.out, hbw⟩
end Go.Proofs.YtlmciomoimfajaaDoor
