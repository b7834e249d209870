/- Contracts of ParseSubst and NamedSubst of the program at the two names that the law FnPowers takes. Conditions: the library's variable MaxLen holds a number. -/
import Derived.Test.YtlmciomoimfajaaDoorX2
import Derived.Test.YtlmciomoimfajaaDoorZ2
import Derived.Test.YtlmciomoimfajaaDoorShelf
import Derived.Lib.SplitLaws
namespace Go.Proofs.YtlmciomoimfajaaDoor
open Go.RowKit
set_option linter.unusedVariables false

/-- a row of strings in a block of its own that lies above B -/
def RdAt (w : World) (B : Nat) (v : Value) (L : List ByteArray) : Prop := ∃ g cap, v = .slice (some ⟨g, 0, none⟩) L.length cap ∧ B ≤ g ∧ L.length ≤ cap ∧ ∀ j x, L[j]? = some x → w.cell? ⟨g, j, none⟩ = some (.string x)
theorem RdAt.rd {w : World} {B : Nat} {v : Value} {L : List ByteArray} (h : RdAt w B v L) : RdS w v L :=
  let ⟨g, c, h1, _, h2, h3⟩ := h; .inr ⟨g, c, h1, h2, h3⟩
theorem RdAt.below {w w' : World} {B : Nat} {v : Value} {L : List ByteArray} (h : RdAt w B v L) (hb : Below w.heap.size w w') : RdAt w' B v L := by
  obtain ⟨g, c, h1, h2, h3, h4⟩ := h
  refine ⟨g, c, h1, h2, h3, fun j x hj => ?_⟩
  have := h4 j x hj
  rw [hb.cell (p := ⟨g, j, none⟩) (World.block_lt_of_cell? w _ this)]; exact this
theorem RdAt.set {w : World} {B : Nat} {v : Value} {L : List ByteArray} (h : RdAt w B v L) {b o : Nat} (hb : b < B) (x : Value) : RdAt (w.setCell ⟨b, o, none⟩ x) B v L := by
  obtain ⟨g, c, h1, h2, h3, h4⟩ := h
  exact ⟨g, c, h1, h2, h3, fun j y hj => by rw [World.cell?_setCell_other _ _ _ _ (by intro e; cases e; omega)]; exact h4 j y hj⟩
theorem RdAt.base {w : World} {B B0 : Nat} {v : Value} {L : List ByteArray} (h : RdAt w B v L) (hB : B0 ≤ B) : RdAt w B0 v L :=
  let ⟨g, c, h1, h2, h3⟩ := h; ⟨g, c, h1, Nat.le_trans hB h2, h3⟩
theorem rdAt_new (w : World) (L : List ByteArray) (t : TypeId) : RdAt (w.alloc (.cells (L.map Value.string).toArray t)) w.heap.size (.slice (some ⟨w.heap.size, 0, none⟩) L.length L.length) L :=
  ⟨_, _, rfl, Nat.le_refl _, Nat.le_refl _, fun j x hj => by rw [World.cell?_alloc_new]; simp [hj]⟩
theorem heap_cellZ {w : World} {b : Nat} {x : Value} {t : TypeId} (h : w.heap[b]? = some (.cells #[x] t (0, 0))) : w.cell? ⟨b, 0, none⟩ = some x ∧ w.frozen? ⟨b, 0, none⟩ = false := by
  constructor
  · unfold World.cell?; simp [h]
  · unfold World.frozen?; simp [h]

set_option maxRecDepth 20000 in
set_option maxHeartbeats 4000000 in
theorem parseSubst_i (T : ByteArray) (L : List ByteArray) (mx : Int) (w : World) (hm : w.cell? ⟨0, 0, none⟩ = some (.int .i64 mx)) (hT : T.size ≤ 40) (hL : Lib.splitB ⟨#[44]⟩ 0 (Lib.countB T ⟨#[44]⟩) T = L) (hok : OkL L) :
    Calls Tryd.prog 31 #[.string T] w fun e w' => ∃ ga c, e = .returned (.tuple #[sbV ga L.length c, .bool true]) ∧ RdAt w' w.heap.size (.slice ga L.length c) L ∧ Below w.heap.size w w' := by
  obtain ⟨wz, hwz⟩ : ∃ wz, wz = w.alloc (.cells #[.slice none 0 0] 34) := ⟨_, rfl⟩
  have hbz : Hid (Below w.heap.size w wz) := by rw [hwz]; exact (Below.refl _ _).alloc (Nat.le_refl _) _
  have hsz : wz.heap.size = w.heap.size + 1 := by rw [hwz]; simp
  have hhz : Hid (wz.heap[w.heap.size]? = some (.cells #[.slice none 0 0] 34 (0, 0))) := by rw [hwz]; exact heap_alloc_new w _
  have hmb := World.block_lt_of_cell? w _ hm
  have hmz : wz.cell? ⟨0, 0, none⟩ = some (.int .i64 mx) := by rw [hbz.out.cell (p := ⟨0, 0, none⟩) hmb]; exact hm
  have hlen := Lib.splitB_all ⟨#[44]⟩ (by decide) 0 _ T rfl
  have h1 := Tryd.strings_Split T ⟨#[44]⟩ mx wz (by omega) hmz (by decide)
  rw [← hlen, hL] at h1
  have h1 := Lib.hid h1
  have h2 := Lib.hid (fun W ga c (h : RdSub W ga L.length c L) => substOk_i ga L.length c L W h hok)
  have HWZ := Lib.hid hwz
  obtain ⟨n, hn⟩ : ∃ n, n = L.length := ⟨_, rfl⟩
  rw [← hn] at h1 h2 ⊢
  have HN := Lib.hid hn
  have HSZ := Lib.hid hsz
  unfold sbV at h2 ⊢
  clear hL hok hn hwz hm hmz hmb hlen hT hsz
  go_enter Tryd.func31, Tryd.ntmps31
  go_wp2_with fail
  rw [← HWZ.out]
  refine h1.out.mono ?_
  rintro e w1 ⟨rfl, hw1⟩
  have ho : Hid (RdAt w1 wz.heap.size (.slice (some ⟨wz.heap.size, 0, none⟩) n n) L) := by rw [hw1, HN.out]; exact rdAt_new wz L _
  have HB1 : Hid (Below wz.heap.size wz w1) := by rw [hw1]; exact (Below.refl _ _).alloc (Nat.le_refl _) _
  have hs1 := HB1.out.size
  clear hw1
  obtain ⟨ga, hga⟩ : ∃ ga : Option Addr, ga = some ⟨wz.heap.size, 0, none⟩ := ⟨_, rfl⟩
  rw [← hga] at ho ⊢
  clear hga
  obtain ⟨w2, hw2⟩ : ∃ w2, w2 = w1.alloc (.cells #[.slice ga n n] 34) := ⟨_, rfl⟩
  have hb2 : Hid (Below w1.heap.size w1 w2) := by rw [hw2]; exact (Below.refl _ _).alloc (Nat.le_refl _) _
  have hc2 : w2.cell? ⟨w1.heap.size, 0, none⟩ = some (.slice ga n n) := by rw [hw2]; exact box_cell w1 _ _
  have hs2 : w1.heap.size < w2.heap.size := by rw [hw2]; simp
  have HW2 := Lib.hid hw2
  have ho2 := Lib.hid (ho.out.below hb2.out)
  have hr2 : Hid (RdSub w2 ga n n L) := ⟨HN.out, ho2.out.rd⟩
  clear hw2
  go_wp2_with fail
  rw [← HW2.out]
  refine (h2.out w2 ga n hr2.out).mono ?_
  rintro e w3 ⟨rfl, b3⟩
  have hc3 : w3.cell? ⟨w1.heap.size, 0, none⟩ = some (.slice ga n n) := by rw [b3.cell (p := ⟨w1.heap.size, 0, none⟩) hs2]; exact hc2
  have hb3 := Lib.hid (hb2.out.trans (b3.mono (by omega)))
  have ho3 := Lib.hid (ho2.out.below b3)
  have hs3 := b3.size
  have hh4 : w3.heap[w.heap.size]? = some (.cells #[.slice none 0 0] 34 (0, 0)) := by
    rw [hb3.out.block _ (by have := HSZ.out; omega), HB1.out.block _ (by have := HSZ.out; omega)]; exact hhz.out
  obtain ⟨r3, r4⟩ := heap_cellZ hh4
  have r5 := World.cell?_setCell_same w3 ⟨w.heap.size, 0, none⟩ (.slice ga n n) r3
  have ho4 : Hid (RdAt (w3.setCell ⟨w.heap.size, 0, none⟩ (.slice ga n n)) w.heap.size (.slice ga n n) L) := (ho3.out.set (by have := HSZ.out; omega) _).base (by have := HSZ.out; omega)
  have hb5 : Hid (Below w.heap.size w (w3.setCell ⟨w.heap.size, 0, none⟩ (.slice ga n n))) := (hbz.out.trans ((HB1.out.mono (by have := HSZ.out; omega)).trans (hb3.out.mono (by have := HSZ.out; omega)))).setCell (p := ⟨w.heap.size, 0, none⟩) (Nat.le_refl _) _
  clear b3 hh4
  go_wp2_with fail
  refine bodyPost_ret (v := .tuple #[.agg #[.slice ga n n], .bool true]) (by simp [results, Tryd.results31, go_sem, r5]) rfl ?_
  exact ⟨ga, n, rfl, ho4.out, hb5.out⟩
set_option maxRecDepth 20000 in
set_option maxHeartbeats 8000000 in
theorem namedSubst_key (L : List ByteArray) (w wz : World) (hwz : wz = w.alloc (.cells #[.slice none 0 0] 34)) :
    ∀ (w1 : World) (ga : Option Addr) (n c : Nat), RdAt w1 wz.heap.size (.slice ga n c) L → Below wz.heap.size wz w1 → w1.cell? ⟨w.heap.size, 0, none⟩ = some (.slice none 0 0) ∧ w1.frozen? ⟨w.heap.size, 0, none⟩ = false ∧ (w1.setCell ⟨w.heap.size, 0, none⟩ (.slice ga n c)).cell? ⟨w.heap.size, 0, none⟩ = some (.slice ga n c) ∧ RdAt (w1.setCell ⟨w.heap.size, 0, none⟩ (.slice ga n c)) w.heap.size (.slice ga n c) L ∧ Below w.heap.size w (w1.setCell ⟨w.heap.size, 0, none⟩ (.slice ga n c)) := by
  intro w1 ga n c ho hb
  have hbz : Below w.heap.size w wz := by rw [hwz]; exact (Below.refl _ _).alloc (Nat.le_refl _) _
  have hsz : wz.heap.size = w.heap.size + 1 := by rw [hwz]; simp
  have hhz : wz.heap[w.heap.size]? = some (.cells #[.slice none 0 0] 34 (0, 0)) := by rw [hwz]; exact heap_alloc_new w _
  have hh : w1.heap[w.heap.size]? = some (.cells #[.slice none 0 0] 34 (0, 0)) := by rw [hb.block _ (by omega)]; exact hhz
  obtain ⟨r3, r4⟩ := heap_cellZ hh
  exact ⟨r3, r4, World.cell?_setCell_same w1 ⟨w.heap.size, 0, none⟩ (.slice ga n c) r3, (ho.set (by omega) _).base (by omega), (hbz.trans (hb.mono (by omega))).setCell (p := ⟨w.heap.size, 0, none⟩) (Nat.le_refl _) _⟩
set_option maxRecDepth 20000 in
set_option maxHeartbeats 8000000 in
theorem named_thue (mx : Int) (w : World) (hm : w.cell? ⟨0, 0, none⟩ = some (.int .i64 mx)) :
    Calls Tryd.prog 16 #[.string ⟨#[116, 104, 117, 101]⟩] w fun e w' => ∃ ga c, e = .returned (.tuple #[sbV ga 2 c, .bool true]) ∧ RdS w' (.slice ga 2 c) thueL ∧ Below w.heap.size w w' := by
  obtain ⟨wz, hwz⟩ : ∃ wz, wz = w.alloc (.cells #[.slice none 0 0] 34) := ⟨_, rfl⟩
  have hbz : Below w.heap.size w wz := by rw [hwz]; exact (Below.refl _ _).alloc (Nat.le_refl _) _
  have KEY := Lib.hid (namedSubst_key thueL w wz hwz)
  have hmb := World.block_lt_of_cell? w _ hm
  have hmz : wz.cell? ⟨0, 0, none⟩ = some (.int .i64 mx) := by rw [hbz.cell (p := ⟨0, 0, none⟩) hmb]; exact hm
  have e0 : ((⟨#[116, 104, 117, 101]⟩ : ByteArray).toList == (⟨#[102, 105, 98, 111, 110, 97, 99, 99, 105]⟩ : ByteArray).toList) = false := by decide +kernel
  have e1 : ((⟨#[116, 104, 117, 101]⟩ : ByteArray).toList == (⟨#[116, 104, 117, 101]⟩ : ByteArray).toList) = true := by decide +kernel
  have hp := parseSubst_i ⟨#[97, 98, 44, 98, 97]⟩ thueL mx wz hmz (by decide) (by decide +kernel) thue_gr.toOkL
  rw [show thueL.length = 2 from rfl] at hp
  have hp := Lib.hid hp
  have HWZ := Lib.hid hwz
  unfold sbV at hp ⊢
  obtain ⟨L, hL⟩ : ∃ L, L = thueL := ⟨_, rfl⟩
  rw [← hL] at hp KEY ⊢
  clear hL hm hmb hmz hbz hwz
  go_enter Tryd.func16, Tryd.ntmps16
  go_wp2_with fail
  rw [← HWZ.out]
  refine hp.out.mono ?_
  rintro e w1 ⟨ga, c, rfl, ho, hb⟩
  obtain ⟨r3, r4, r5, r6, r7⟩ := KEY.out w1 ga 2 c ho hb
  have HR6 := Lib.hid r6.rd
  have HR7 := Lib.hid r7
  clear ho hb r6 r7
  go_wp2_with fail
  refine bodyPost_ret (v := .tuple #[.agg #[.slice ga 2 c], .bool true]) (by simp [results, Tryd.results16, go_sem, r5]) rfl ?_
  exact ⟨ga, c, rfl, HR6.out, HR7.out⟩
set_option maxRecDepth 20000 in
set_option maxHeartbeats 8000000 in
theorem named_sqf (mx : Int) (w : World) (hm : w.cell? ⟨0, 0, none⟩ = some (.int .i64 mx)) :
    Calls Tryd.prog 16 #[.string ⟨#[115, 113, 117, 97, 114, 101, 102, 114, 101, 101]⟩] w fun e w' => ∃ ga c, e = .returned (.tuple #[sbV ga 3 c, .bool true]) ∧ RdS w' (.slice ga 3 c) sqfL ∧ Below w.heap.size w w' := by
  obtain ⟨wz, hwz⟩ : ∃ wz, wz = w.alloc (.cells #[.slice none 0 0] 34) := ⟨_, rfl⟩
  have hbz : Below w.heap.size w wz := by rw [hwz]; exact (Below.refl _ _).alloc (Nat.le_refl _) _
  have KEY := Lib.hid (namedSubst_key sqfL w wz hwz)
  have hmb := World.block_lt_of_cell? w _ hm
  have hmz : wz.cell? ⟨0, 0, none⟩ = some (.int .i64 mx) := by rw [hbz.cell (p := ⟨0, 0, none⟩) hmb]; exact hm
  have e0 : ((⟨#[115, 113, 117, 97, 114, 101, 102, 114, 101, 101]⟩ : ByteArray).toList == (⟨#[102, 105, 98, 111, 110, 97, 99, 99, 105]⟩ : ByteArray).toList) = false := by decide +kernel
  have e1 : ((⟨#[115, 113, 117, 97, 114, 101, 102, 114, 101, 101]⟩ : ByteArray).toList == (⟨#[116, 104, 117, 101]⟩ : ByteArray).toList) = false := by decide +kernel
  have e2 : ((⟨#[115, 113, 117, 97, 114, 101, 102, 114, 101, 101]⟩ : ByteArray).toList == (⟨#[100, 111, 117, 98, 108, 105, 110, 103]⟩ : ByteArray).toList) = false := by decide +kernel
  have e3 : ((⟨#[115, 113, 117, 97, 114, 101, 102, 114, 101, 101]⟩ : ByteArray).toList == (⟨#[116, 114, 105, 98, 111, 110, 97, 99, 99, 105]⟩ : ByteArray).toList) = false := by decide +kernel
  have e4 : ((⟨#[115, 113, 117, 97, 114, 101, 102, 114, 101, 101]⟩ : ByteArray).toList == (⟨#[115, 105, 108, 118, 101, 114]⟩ : ByteArray).toList) = false := by decide +kernel
  have e5 : ((⟨#[115, 113, 117, 97, 114, 101, 102, 114, 101, 101]⟩ : ByteArray).toList == (⟨#[115, 113, 117, 97, 114, 101, 102, 114, 101, 101]⟩ : ByteArray).toList) = true := by decide +kernel
  have hp := parseSubst_i ⟨#[97, 98, 99, 44, 97, 99, 44, 98]⟩ sqfL mx wz hmz (by decide) (by decide +kernel) sqf_gr.toOkL
  rw [show sqfL.length = 3 from rfl] at hp
  have hp := Lib.hid hp
  have HWZ := Lib.hid hwz
  unfold sbV at hp ⊢
  obtain ⟨L, hL⟩ : ∃ L, L = sqfL := ⟨_, rfl⟩
  rw [← hL] at hp KEY ⊢
  clear hL hm hmb hmz hbz hwz
  go_enter Tryd.func16, Tryd.ntmps16
  go_wp2_with fail
  rw [← HWZ.out]
  refine hp.out.mono ?_
  rintro e w1 ⟨ga, c, rfl, ho, hb⟩
  obtain ⟨r3, r4, r5, r6, r7⟩ := KEY.out w1 ga 3 c ho hb
  have HR6 := Lib.hid r6.rd
  have HR7 := Lib.hid r7
  clear ho hb r6 r7
  go_wp2_with fail
  refine bodyPost_ret (v := .tuple #[.agg #[.slice ga 3 c], .bool true]) (by simp [results, Tryd.results16, go_sem, r5]) rfl ?_
  exact ⟨ga, c, rfl, HR6.out, HR7.out⟩
end Go.Proofs.YtlmciomoimfajaaDoor
