/- Contracts of the laws' generator: l01New, l01Byte, l01Below, l31New, MakeSize: a cursor over the code's bytes, of which nothing is known but where it lies. Conditions: the code's bytes can be read. -/
import Derived.Test.YtlmciomoimfajaaDoorA1
import Derived.Deep.QuietTactic
import Derived.BigQuiet
import Derived.Lib.Hide
namespace Go.Proofs.YtlmciomoimfajaaDoor
open Go.RowKit
set_option linter.unusedVariables false

/-- a slice of numbers that came in: what lies behind its address -/
def IsRow (k : IntKind) (W : World) (a : Option Addr) (len cap : Nat) (zs : List Int) : Prop :=
  (a = none ∧ len = 0 ∧ cap = 0 ∧ zs = []) ∨ ∃ x, a = some x ∧ len ≤ cap ∧ cap ≤ maxLen ∧ zs.length = cap ∧ (∀ i, i < zs.length → W.cell? (x.add i) = some (.int k (zs.getD i 0))) ∧ ∀ n ∈ zs, (Lit.int k n).wf = true
/-- the code can be read, below block B -/
def CodeAt (w : World) (B : Nat) (a : Option Addr) (len cap : Nat) (zs : List Int) : Prop := IsRow .u8 w a len cap zs ∧ ∀ x, a = some x → zs ≠ [] → x.block < B
theorem IsRow.keep {k : IntKind} {w w' : World} {a : Option Addr} {len cap : Nat} {zs : List Int} (h : IsRow k w a len cap zs) (hb : Below w.heap.size w w') : IsRow k w' a len cap zs := by
  rcases h with h | ⟨x, h1, h2, h3, h4, h5, h6⟩
  · exact .inl h
  · refine .inr ⟨x, h1, h2, h3, h4, fun i hi => ?_, h6⟩
    rw [hb.cell (World.block_lt_of_cell? w _ (h5 i hi))]; exact h5 i hi
theorem row_read {w : World} {a : Option Addr} {len cap : Nat} {zs : List Int} (h : IsRow .u8 w a len cap zs) {i : Nat} (hi : i < len) : ∃ x z, a = some x ∧ w.cell? (x.add i) = some (.int .u8 z) ∧ len ≤ cap := by
  rcases h with ⟨_, h, _⟩ | ⟨x, h1, h2, h3, h4, h5, h6⟩
  · omega
  · exact ⟨x, _, h1, h5 i (by omega), h2⟩

set_option maxHeartbeats 1000000 in
theorem l01New_c (a : Option Addr) (len cap : Nat) (zs : List Int) (w : World) (h : IsRow .u8 w a len cap zs) (hl : len ≤ 1048576) :
    Calls Tryd.prog 40 #[.slice a len cap] w fun e w' => e = .returned (.pointer (some ⟨w.heap.size, 0, none⟩)) ∧ ∃ x : Int, w' = w.alloc (.cells #[.slice a len cap, .int .i64 0, .int .i64 x] 66) := by
  have HR := Lib.hid (fun i (hi : i < len) => row_read h hi)
  clear h
  go_enter Tryd.func40, Tryd.ntmps40
  go_wp2
  go_loop [3, 4] (fun y z => ∃ (k : Nat) (x : Int), y = .int .i64 x ∧ z = .int .i64 k ∧ k ≤ len) (fun _ z => len - (intOf z).toNat)
  case atStart => exact ⟨0, _, rfl, rfl, by omega⟩
  case round =>
    obtain ⟨k, x, rfl, rfl, hk⟩ := hrel
    by_cases hlt : k < len
    · have hd : decide ((k : Int) < (len : Int)) = true := by simp; omega
      by_cases h4 : k < 4000
      · obtain ⟨ad, z, rfl, hc, hcap⟩ := HR.out k hlt
        have b1 : (k : Int) < (len : Int) := by omega
        have b2 : (k : Int) < 4000 := by omega
        go_wp2
        go_round
        case rel => exact ⟨k + 1, _, rfl, by go_num, by omega⟩
        case measure => simp [intOf] <;> omega
      · have b2 : decide ((k : Int) < 4000) = false := decide_eq_false (by omega)
        go_wp2
        go_ret
        exact ⟨rfl, _, rfl⟩
    · have hd : decide ((k : Int) < (len : Int)) = false := decide_eq_false (by omega)
      go_wp2
      go_ret
      exact ⟨rfl, _, rfl⟩

theorem and255 (A : Int) : ∃ x : Nat, x ≤ 255 ∧ bits .and .i64 A 255 = (x : Int) := by
  have h : (BitVec.ofInt 64 A &&& BitVec.ofInt 64 255).toNat ≤ 255 := by rw [BitVec.toNat_and]; exact Nat.le_trans Nat.and_le_right (by decide)
  refine ⟨_, h, ?_⟩
  show IntKind.i64.wrap (((BitVec.ofInt 64 A &&& BitVec.ofInt 64 255).toNat : Nat) : Int) = _
  rw [IntKind.wrap_i64]; omega
theorem grown_transV {a b c : World} {r : Option Nat} (h1 : a.grownBy b r) (h2 : b.grownBy c r) : a.grownBy c r :=
  ⟨h2.os.trans h1.os, h2.tape.trans h1.tape, h2.output.trans h1.output, Nat.le_trans h1.size h2.size, fun k hk hne => (h2.block k (Nat.lt_of_lt_of_le hk h1.size) hne).trans (h1.block k hk hne)⟩
theorem grown_drew {w w' : World} {r : Option Nat} (h : w.grownBy w' r) (d : Nat) : w.grownBy (w'.drewN d) r := ⟨h.os, h.tape, h.output, h.size, h.block⟩
theorem row_grown {w w' : World} {a : Option Addr} {len cap g : Nat} {zs : List Int} (h : IsRow .u8 w a len cap zs) (hg : ∀ x, a = some x → zs ≠ [] → x.block ≠ g) (hw : w.grownBy w' (some g)) : IsRow .u8 w' a len cap zs := by
  rcases h with h | ⟨x, h1, h2, h3, h4, h5, h6⟩
  · exact .inl h
  · refine .inr ⟨x, h1, h2, h3, h4, fun i hi => ?_, h6⟩
    have hc := h5 i hi
    have hb := World.block_lt_of_cell? w _ hc
    have hx : (x.add i).block = x.block := by unfold Addr.add; split <;> rfl
    rw [← hc]
    unfold World.cell?
    rw [hw.block _ hb (fun e => hg x h1 (by intro e0; rw [e0] at hi; simp at hi) (by rw [← hx]; exact (Option.some.inj e)))]
/-- the cursor in block g over the code -/
def CurAt (w : World) (B g : Nat) (a : Option Addr) (len cap : Nat) (zs : List Int) : Prop :=
  CodeAt w B a len cap zs ∧ ∃ (i : Nat) (x : Int), i ≤ len ∧ w.ownsRow B 66 1 (.slice (some ⟨g, 0, none⟩) 3 3) 3 [.slice a len cap, .int .i64 (i : Int), .int .i64 x]

set_option maxHeartbeats 2000000 in
theorem l01Byte_c (B g : Nat) (a : Option Addr) (len cap : Nat) (zs : List Int) (w : World) (h : CurAt w B g a len cap zs) (hl : len ≤ 1048576) :
    Calls Tryd.prog 41 #[.pointer (some ⟨g, 0, none⟩)] w fun e w' => ∃ x : Nat, e = .returned (.int .i64 (x : Int)) ∧ x ≤ 255 ∧ CurAt w' B g a len cap zs ∧ w.grownBy w' (some g) := by
  obtain ⟨⟨hrow, hlow⟩, i, x, hi, hown⟩ := h
  have c0 := hown.cellAt 0 (by omega)
  have c1 := hown.cellAt 1 (by omega)
  have c2 := hown.cellAt 2 (by omega)
  have f0 := hown.frozenAt 0
  have f1 := hown.frozenAt 1
  have f2 := hown.frozenAt 2
  go_enter Tryd.func41, Tryd.ntmps41
  go_wp2
  generalize wrap64 (wrap64 (x * 6364136223846793005) + 1442695040888963407) = Y
  have hst := hown.stored 2 (.int .i64 Y)
  obtain ⟨W1, hW1⟩ : ∃ W1, W1 = w.setCell ⟨g, 2, none⟩ (.int .i64 Y) := ⟨_, rfl⟩
  rw [← hW1] at hst ⊢
  have hown1 : W1.ownsRow B 66 1 (.slice (some ⟨g, 0, none⟩) 3 3) 3 [.slice a len cap, .int .i64 (i : Int), .int .i64 Y] := hst.1
  have HG1 := Lib.hid hst.2
  clear hst hW1 c0 c1 c2 f0 f1 f2 
  have c0 := hown1.cellAt 0 (by omega)
  have c1 := hown1.cellAt 1 (by omega)
  have c2 := hown1.cellAt 2 (by omega)
  have f1 := hown1.frozenAt 1
  have HO1 := Lib.hid hown1
  have HO := Lib.hid hown
  have HROW := Lib.hid hrow
  have HLOW := Lib.hid hlow
  clear hown1 hown hrow hlow
  go_quiet (fail)
  go_wp2
  generalize hX : bits BinOp.and IntKind.i64 _ 255 = X
  obtain ⟨y, hy, rfl⟩ : ∃ y : Nat, y ≤ 255 ∧ X = (y : Int) := by rw [← hX]; exact and255 _
  obtain ⟨W2, hW2⟩ : ∃ W2, W2 = W1.drewN nq := ⟨_, rfl⟩
  have HG2 : Hid (w.grownBy W2 (some g)) := by rw [hW2]; exact grown_drew HG1.out _
  have HO2 : Hid (W2.ownsRow B 66 1 (.slice (some ⟨g, 0, none⟩) 3 3) 3 [.slice a len cap, .int .i64 (i : Int), .int .i64 Y]) := by rw [hW2]; exact HO1.out
  have HR2 : Hid (IsRow .u8 W2 a len cap zs) := row_grown HROW.out (fun x hx hz => by have := HLOW.out x hx hz; have := (HO.out.lt g rfl).1; omega) HG2.out
  rw [← hW2]
  clear hX hW2 c0 c1 c2 f1 HO1 HG1
  have c0 := HO2.out.cellAt 0 (by omega)
  have c1 := HO2.out.cellAt 1 (by omega)
  have f1 := HO2.out.frozenAt 1
  by_cases hlt : i < len
  · have b1 : (i : Int) < (len : Int) := by omega
    obtain ⟨ad, z, rfl, hc, hcap⟩ := row_read HR2.out hlt
    go_quiet (fail)
    go_wp2
    go_quiet (fail)
    go_wp2
    generalize hX : bits BinOp.and IntKind.i64 _ 255 = X
    obtain ⟨y2, hy2, rfl⟩ : ∃ y2 : Nat, y2 ≤ 255 ∧ X = (y2 : Int) := by rw [← hX]; exact and255 _
    have hst := HO2.out.stored 1 (.int .i64 ((i : Int) + 1))
    have HF : ∀ d, CurAt ((W2.drewN d).setCell ⟨g, 1, none⟩ (.int .i64 ((i : Int) + 1))) B g (some ad) len cap zs := fun d => by
      have hs2 := (show (W2.drewN d).ownsRow B 66 1 (.slice (some ⟨g, 0, none⟩) 3 3) 3 [.slice (some ad) len cap, .int .i64 (i : Int), .int .i64 Y] from HO2.out).stored 1 (.int .i64 ((i : Int) + 1))
      refine ⟨⟨row_grown (show IsRow .u8 (W2.drewN d) (some ad) len cap zs from HR2.out) (fun x hx hz => by have := HLOW.out x hx hz; have := (HO.out.lt g rfl).1; omega) hs2.2, HLOW.out⟩, i + 1, Y, by omega, ?_⟩
      exact hs2.1
    have HG : ∀ d, w.grownBy ((W2.drewN d).setCell ⟨g, 1, none⟩ (.int .i64 ((i : Int) + 1))) (some g) := fun d => by
      have hs2 := (show (W2.drewN d).ownsRow B 66 1 (.slice (some ⟨g, 0, none⟩) 3 3) 3 [.slice (some ad) len cap, .int .i64 (i : Int), .int .i64 Y] from HO2.out).stored 1 (.int .i64 ((i : Int) + 1))
      exact grown_transV (grown_drew HG2.out d) hs2.2
    have HF' := Lib.hid HF
    have HG' := Lib.hid HG
    clear hst HF HG hX
    go_wp2
    go_ret
    exact ⟨y2, rfl, hy2, HF'.out _, HG'.out _⟩
  · have b1 : decide ((i : Int) < (len : Int)) = false := decide_eq_false (by omega)
    go_quiet (fail)
    go_wp2
    go_ret
    exact ⟨y, rfl, hy, ⟨⟨HR2.out, HLOW.out⟩, i, Y, hi, HO2.out⟩, grown_drew HG2.out _⟩

set_option maxHeartbeats 2000000 in
theorem l01Below_c (B g : Nat) (a : Option Addr) (len cap : Nat) (zs : List Int) (n : Nat) (w : World) (h : CurAt w B g a len cap zs) (hl : len ≤ 1048576) (hn : n ≤ 256) (hn1 : 1 ≤ n) :
    Calls Tryd.prog 36 #[.pointer (some ⟨g, 0, none⟩), .int .i64 (n : Int)] w fun e w' => ∃ x : Nat, e = .returned (.int .i64 (x : Int)) ∧ x < n ∧ CurAt w' B g a len cap zs ∧ w.grownBy w' (some g) := by
  have hB := Lib.hid (l01Byte_c B g a len cap zs w h hl)
  clear h
  go_enter Tryd.func36, Tryd.ntmps36
  go_wp2_with fail
  refine hB.out.mono ?_
  rintro e w' ⟨x, rfl, hx, hc, hg⟩
  obtain ⟨r, hr⟩ : ∃ r : Nat, r = x % n := ⟨_, rfl⟩
  have hrn : r < n := by rw [hr]; exact Nat.mod_lt _ (by omega)
  have e1 : (x : Int).tmod (n : Int) = (r : Int) := by rw [hr, Int.tmod_eq_emod_of_nonneg (by omega)]; exact (Int.natCast_emod _ _).symm
  have e1' : (x : Int) % (n : Int) = (r : Int) := by rw [hr]; exact (Int.natCast_emod _ _).symm
  have hz : ((n : Int) == 0) = false := by simp; omega
  have e2 : IntKind.i64.wrap (r : Int) = (r : Int) := IntWalk.i64_in _ (by omega)
  have HC := Lib.hid hc
  have HG := Lib.hid hg
  clear hr hc hg
  go_wp2_with fail
  go_ret
  exact ⟨r, rfl, hrn, HC.out, HG.out⟩

/-- where the cursor's block is new: nothing below has turned -/
theorem cur_below {w w' : World} {B g : Nat} (hg : w.grownBy w' (some g)) (hB : B ≤ g) (hs : B ≤ w.heap.size) : Below B w w' :=
  (Below.refl B w).grown hg hs fun k hk => by cases hk; exact hB
theorem CurAt.ge {w : World} {B g : Nat} {a : Option Addr} {len cap : Nat} {zs : List Int} (h : CurAt w B g a len cap zs) : B ≤ g ∧ g < w.heap.size := by
  obtain ⟨_, i, x, _, ho⟩ := h
  exact ho.lt g rfl

set_option maxHeartbeats 2000000 in
theorem l31New_c (a : Option Addr) (len cap : Nat) (zs : List Int) (n : Nat) (w : World) (h : IsRow .u8 w a len cap zs) (hl : len ≤ 1048576) (hn : n ≤ 1000000) :
    Calls Tryd.prog 21 #[.slice a len cap, .int .i64 (n : Int)] w fun e w' => e = .returned (.pointer (some ⟨w.heap.size, 0, none⟩)) ∧ CurAt w' w.heap.size w.heap.size a len cap zs ∧ Below w.heap.size w w' := by
  have h1 := Lib.hid (l01New_c a len cap zs w h hl)
  have hlow : Hid (∀ x, a = some x → zs ≠ [] → x.block < w.heap.size) := fun x hx hz => by
    rcases h with ⟨_, _, _, h0⟩ | ⟨y, e, _, _, h4, h5, _⟩
    · exact absurd h0 hz
    · rw [hx] at e
      cases e
      have hc := h5 0 (List.length_pos_iff.2 hz)
      have := World.block_lt_of_cell? w _ hc
      have hb : (x.add 0).block = x.block := by unfold Addr.add; split <;> rfl
      omega
  have HROW := Lib.hid h
  have hN : Hid (∀ x : Int, CurAt (w.alloc (.cells #[.slice a len cap, .int .i64 0, .int .i64 x] 66)) w.heap.size w.heap.size a len cap zs) := fun x => by
    refine ⟨⟨HROW.out.keep ((Below.refl _ _).alloc (Nat.le_refl _) _), hlow.out⟩, 0, x, Nat.zero_le _, ?_⟩
    exact ⟨rfl, .inr ⟨w.heap.size, 3, _, rfl, Nat.le_refl _, heap_alloc_new w _, Nat.le_refl _, by unfold maxLen; omega, rfl, rfl⟩⟩
  have hB := fun W (hW : CurAt W w.heap.size w.heap.size a len cap zs) => Lib.hid (l01Byte_c w.heap.size w.heap.size a len cap zs W hW hl)
  clear h
  go_enter Tryd.func21, Tryd.ntmps21
  go_wp2_with fail
  refine h1.out.mono ?_
  rintro e w' ⟨rfl, x, rfl⟩
  go_wp2_with fail
  go_loopw [6] (fun z wr => ∃ k : Nat, z = .int .i64 k ∧ k ≤ n ∧ Hid (CurAt wr w.heap.size w.heap.size a len cap zs) ∧ Below w.heap.size w wr) (fun z _ => n - (intOf z).toNat)
  case atStart => exact ⟨0, rfl, by omega, hN.out x, (Below.refl _ _).alloc (Nat.le_refl _) _⟩
  case round =>
    obtain ⟨k, rfl, hk, hc, hbw⟩ := hrel
    have hsz := hbw.size
    by_cases hlt : k < n
    · have hcall := hB wr hc.out
      go_wp2_with fail
      refine hcall.out.mono ?_
      rintro e w2 ⟨y, rfl, hy, hc2, hg2⟩
      have HC2 := Lib.hid hc2
      have HB2 := Lib.hid (hbw.trans (cur_below hg2 (Nat.le_refl _) hsz))
      clear hc2 hg2
      go_wp2_with fail
      go_roundw
      case rel => exact ⟨k + 1, by go_num, by omega, HC2, HB2.out⟩
      case measure => simp [intOf] <;> omega
    · go_wp2
      go_ret
      exact ⟨rfl, hc.out, hbw⟩

set_option maxHeartbeats 2000000 in
theorem makeSize_c (a : Option Addr) (len cap : Nat) (zs : List Int) (n : Nat) (lo hi : Int) (w : World) (h : IsRow .u8 w a len cap zs) (hl : len ≤ 1048576) (hn : n ≤ 1000000) (h0 : -1000000 ≤ lo) (h1 : lo ≤ hi) (h2 : hi ≤ 1000000) :
    Calls Tryd.prog 18 #[.slice a len cap, .int .i64 (n : Int), .int .i64 lo, .int .i64 hi] w fun e w' => ∃ x : Int, e = .returned (.int .i64 x) ∧ lo ≤ x ∧ x ≤ hi ∧ Below w.heap.size w w' := by
  have hN := Lib.hid (l31New_c a len cap zs n w h hl hn)
  have hW := fun (m : Nat) W (hm : m ≤ 256) (hm1 : 1 ≤ m) (hc : CurAt W w.heap.size w.heap.size a len cap zs) => Lib.hid (l01Below_c w.heap.size w.heap.size a len cap zs m W hc hl hm hm1)
  clear h
  go_enter Tryd.func18, Tryd.ntmps18
  go_wp2
  go_loop [9, 10] (fun y z => ∃ k m : Nat, z = .int .i64 (lo + k) ∧ y = .int .i64 (m : Int) ∧ lo + k ≤ hi ∧ 1 ≤ m ∧ m ≤ 100 ∧ m ≤ k + 1) (fun _ z => (hi - intOf z).toNat)
  case atStart => exact ⟨0, 1, by simp, rfl, by omega, by omega, by omega, by omega⟩
  case round =>
    obtain ⟨k, m, rfl, rfl, hk, hm1, hm, hmk⟩ := hrel
    have e1 : IntKind.i64.wrap (lo + (k : Int) + 1) = lo + (k : Int) + 1 := IntWalk.i64_in _ (by omega)
    have e2 : IntKind.i64.wrap ((m : Int) + 1) = (m : Int) + 1 := IntWalk.i64_in _ (by omega)
    by_cases c1 : lo + (k : Int) < hi
    · have d1 : decide (lo + (k : Int) < hi) = true := decide_eq_true c1
      by_cases c2 : m < 100
      · have d2 : (m : Int) < 100 := by omega
        go_wp2
        go_round
        case rel => exact ⟨k + 1, m + 1, by go_num, by go_num, by omega, by omega, by omega, by omega⟩
        case measure => simp [intOf] <;> omega
      · have d2 : decide ((m : Int) < 100) = false := decide_eq_false (by omega)
        go_wp2_with fail
        refine hN.out.mono ?_
        rintro e w1 ⟨rfl, hc1, hb1⟩
        have hq := hW m w1 (by omega) hm1 hc1
        have hge := hc1.ge
        clear hc1
        go_wp2_with fail
        refine hq.out.mono ?_
        rintro e w2 ⟨y, rfl, hy, hc2, hg2⟩
        have HB2 := Lib.hid (hb1.trans (cur_below hg2 (Nat.le_refl _) hb1.size))
        clear hc2 hg2
        go_wp2_with fail
        go_loop [11, 12] (fun u z => ∃ x r : Int, u = .int .i64 x ∧ z = .int .i64 r ∧ 0 ≤ r ∧ lo ≤ x ∧ x + r ≤ hi) (fun _ z => (intOf z).toNat)
        case atStart => exact ⟨lo, (y : Int), rfl, rfl, by omega, by omega, by omega⟩
        case round =>
          obtain ⟨x, r, rfl, rfl, hr0, hx0, hx1⟩ := hrel
          have e3 : IntKind.i64.wrap (x + 1) = x + 1 := IntWalk.i64_in _ (by omega)
          have e4 : IntKind.i64.wrap (r - 1) = r - 1 := IntWalk.i64_in _ (by omega)
          by_cases hr : 0 < r
          · have hd : decide (r > 0) = true := decide_eq_true hr
            go_wp2
            go_round
            case rel => exact ⟨x + 1, r - 1, by go_num, by go_num, by omega, by omega, by omega⟩
            case measure => simp [intOf] <;> omega
          · have hd : decide (r > 0) = false := decide_eq_false hr
            go_wp2
            go_ret
            exact ⟨x, rfl, hx0, by omega, HB2.out⟩
    · have d1 : decide (lo + (k : Int) < hi) = false := decide_eq_false c1
      go_wp2_with fail
      refine hN.out.mono ?_
      rintro e w1 ⟨rfl, hc1, hb1⟩
      have hq := hW m w1 (by omega) hm1 hc1
      have hge := hc1.ge
      clear hc1
      go_wp2_with fail
      refine hq.out.mono ?_
      rintro e w2 ⟨y, rfl, hy, hc2, hg2⟩
      have HB2 := Lib.hid (hb1.trans (cur_below hg2 (Nat.le_refl _) hb1.size))
      clear hc2 hg2
      go_wp2_with fail
      go_loop [11, 12] (fun u z => ∃ x r : Int, u = .int .i64 x ∧ z = .int .i64 r ∧ 0 ≤ r ∧ lo ≤ x ∧ x + r ≤ hi) (fun _ z => (intOf z).toNat)
      case atStart => exact ⟨lo, (y : Int), rfl, rfl, by omega, by omega, by omega⟩
      case round =>
        obtain ⟨x, r, rfl, rfl, hr0, hx0, hx1⟩ := hrel
        have e3 : IntKind.i64.wrap (x + 1) = x + 1 := IntWalk.i64_in _ (by omega)
        have e4 : IntKind.i64.wrap (r - 1) = r - 1 := IntWalk.i64_in _ (by omega)
        by_cases hr : 0 < r
        · have hd : decide (r > 0) = true := decide_eq_true hr
          go_wp2
          go_round
          case rel => exact ⟨x + 1, r - 1, by go_num, by go_num, by omega, by omega, by omega⟩
          case measure => simp [intOf] <;> omega
        · have hd : decide (r > 0) = false := decide_eq_false hr
          go_wp2
          go_ret
          exact ⟨x, rfl, hx0, by omega, HB2.out⟩
end Go.Proofs.YtlmciomoimfajaaDoor
