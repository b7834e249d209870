/- Contracts of GreatestExponent in the program and in the reference, and the walk of its law. Conditions: strings of at most 2^30 bytes. -/
import Derived.Test.YtlmciomoimfajaaDoorT7
import Derived.Test.YtlmciomoimfajaaDoorB8
namespace Go.Proofs.YtlmciomoimfajaaDoor
open Go.RowKit
set_option linter.unusedVariables false

/-- one look at a part of n letters with the least period p -/
def stepE (n : Nat) (ab : Nat × Nat) (p : Nat) : Nat × Nat := if ab.1 * p < n * ab.2 then (n, p) else ab
def stepL (n : Nat) (ab : Nat × Nat) (l : List Nat) : Nat × Nat := l.foldl (stepE n) ab
theorem stepL_cons (n : Nat) (ab : Nat × Nat) (p : Nat) (l : List Nat) : stepL n ab (p :: l) = stepL n (stepE n ab p) l := rfl
theorem stepE_yes {n a b p : Nat} (h : a * p < n * b) : stepE n (a, b) p = (n, p) := by unfold stepE; rw [if_pos h]
theorem stepE_no {n a b p : Nat} (h : ¬ a * p < n * b) : stepE n (a, b) p = (a, b) := by unfold stepE; rw [if_neg h]
theorem stepL_min (n : Nat) (hn : 1 ≤ n) : ∀ (l : List Nat) (p : Nat), ∃ m, stepL n (n, p) l = (n, m) ∧ m ∈ p :: l ∧ ∀ q ∈ p :: l, m ≤ q
  | [], p => ⟨p, rfl, by simp, by simp⟩
  | q :: l, p => by
    rw [stepL_cons]
    by_cases h : n * q < n * p
    · rw [stepE_yes h]
      have hqp : q < p := Nat.lt_of_mul_lt_mul_left h
      obtain ⟨m, h1, h2, h3⟩ := stepL_min n hn l q
      refine ⟨m, h1, by simp only [List.mem_cons] at h2 ⊢; exact .inr h2, fun x hx => ?_⟩
      rcases List.mem_cons.1 hx with rfl | hx
      · have := h3 q (by simp); omega
      · exact h3 x hx
    · rw [stepE_no h]
      have hqp : p ≤ q := by
        rcases Nat.lt_or_ge q p with h' | h'
        · exact absurd (Nat.mul_lt_mul_of_pos_left h' hn) h
        · exact h'
      obtain ⟨m, h1, h2, h3⟩ := stepL_min n hn l p
      refine ⟨m, h1, ?_, fun x hx => ?_⟩
      · simp only [List.mem_cons] at h2 ⊢
        rcases h2 with h2 | h2
        · exact .inl h2
        · exact .inr (.inr h2)
      · rcases List.mem_cons.1 hx with rfl | hx
        · exact h3 _ (by simp)
        · rcases List.mem_cons.1 hx with rfl | hx
          · have := h3 p (by simp); omega
          · exact h3 x (by simp [hx])
theorem stepL_is (n a b : Nat) (hn : 1 ≤ n) : ∀ l : List Nat, (stepL n (a, b) l = (a, b) ∧ ∀ p ∈ l, ¬ a * p < n * b) ∨ ∃ m, stepL n (a, b) l = (n, m) ∧ m ∈ l ∧ a * m < n * b ∧ ∀ p ∈ l, m ≤ p
  | [] => .inl ⟨rfl, by simp⟩
  | q :: l => by
    rw [stepL_cons]
    by_cases h : a * q < n * b
    · rw [stepE_yes h]
      obtain ⟨m, h1, h2, h3⟩ := stepL_min n hn l q
      exact .inr ⟨m, h1, h2, Nat.lt_of_le_of_lt (Nat.mul_le_mul_left _ (h3 q (by simp))) h, h3⟩
    · rw [stepE_no h]
      rcases stepL_is n a b hn l with ⟨h1, h2⟩ | ⟨m, h1, h2, h3, h4⟩
      · refine .inl ⟨h1, fun p hp => ?_⟩
        rcases List.mem_cons.1 hp with rfl | hp
        · exact h
        · exact h2 p hp
      · refine .inr ⟨m, h1, by simp [h2], h3, fun p hp => ?_⟩
        rcases List.mem_cons.1 hp with rfl | hp
        · rcases Nat.lt_or_ge p m with h' | h'
          · exact absurd (Nat.lt_of_le_of_lt (Nat.mul_le_mul_left _ (Nat.le_of_lt h')) h3) h
          · exact h'
        · exact h4 p hp
theorem stepL_ext {n : Nat} (hn : 1 ≤ n) (ab : Nat × Nat) {l l' : List Nat} (h : ∀ p, p ∈ l ↔ p ∈ l') : stepL n ab l = stepL n ab l' := by
  obtain ⟨a, b⟩ := ab
  rcases stepL_is n a b hn l with ⟨h1, h2⟩ | ⟨m, h1, h2, h3, h4⟩ <;> rcases stepL_is n a b hn l' with ⟨g1, g2⟩ | ⟨m', g1, g2, g3, g4⟩
  · rw [h1, g1]
  · exact absurd g3 (h2 m' ((h m').2 g2))
  · exact absurd h3 (g2 m ((h m).1 h2))
  · have e1 := h4 m' ((h m').2 g2)
    have e2 := g4 m ((h m).1 h2)
    rw [h1, g1, show m = m' by omega]
def geGo (L : Nat → List Nat) : Nat → Nat → Nat × Nat → Nat × Nat
  | 0, _, ab => ab
  | f + 1, n, ab => geGo L f (n + 1) (stepL n ab (L n))
theorem geGo_ext {L L' : Nat → List Nat} (h : ∀ n p, p ∈ L n ↔ p ∈ L' n) : ∀ f n ab, 1 ≤ n → geGo L f n ab = geGo L' f n ab
  | 0, _, _, _ => rfl
  | f + 1, n, ab, hn => by
    show geGo L f (n + 1) (stepL n ab (L n)) = geGo L' f (n + 1) (stepL n ab (L' n))
    rw [stepL_ext hn ab (h n)]; exact geGo_ext h f (n + 1) _ (by omega)
theorem geGo_in {L : Nat → List Nat} {f n : Nat} {ab R : Nat × Nat} (h : geGo L f n ab = R) (hf : 0 < f) : Hid (geGo L (f - 1) (n + 1) (stepL n ab (L n)) = R) := by
  obtain ⟨g, rfl⟩ : ∃ g, f = g + 1 := ⟨f - 1, by omega⟩
  exact h
def lpS (x : ByteArray) : Nat := lpOf x.data.toList
theorem lpGo_bd (l : List UInt8) : ∀ f p, p + f = l.length + 1 → 1 ≤ f → 1 ≤ p → 1 ≤ lpGo l f p ∧ lpGo l f p ≤ l.length
  | 0, _, _, h, _ => by omega
  | f + 1, p, h, _, hp => by
    unfold lpGo
    split
    · omega
    · rename_i hpw
      by_cases hf : 1 ≤ f
      · exact lpGo_bd l f (p + 1) (by omega) hf (by omega)
      · have : p = l.length := by omega
        subst this
        exact absurd (pow_full l) hpw
theorem lpS_bd {x : ByteArray} (h : 1 ≤ x.size) : 1 ≤ lpS x ∧ lpS x ≤ x.size := by
  unfold lpS lpOf
  rw [size_len] at h ⊢
  exact lpGo_bd _ _ _ (by omega) h (by omega)
def geOk (s : ByteArray) : Bool := shortB s && decide (1 ≤ s.size)
theorem geOk_iff {s : ByteArray} : geOk s = true ↔ wordL s.data.toList = true ∧ s.size ≤ 60 ∧ 1 ≤ s.size := by
  unfold geOk; rw [Bool.and_eq_true, shortB_iff, decide_eq_true_eq]; exact and_assoc
def geW (s : ByteArray) : Nat × Nat := if geOk s = true then geGo (fun n => (facL s n).map lpS) s.size 1 (1, 1) else (0, 0)
theorem geW_impl {s : ByteArray} (h : geOk s = true) : geW s = geGo (fun n => (facW s n).map lpS) s.size 1 (1, 1) := by
  unfold geW
  rw [if_pos h]
  refine geGo_ext (fun n p => ?_) _ _ _ (by omega)
  simp only [List.mem_map]
  constructor
  · rintro ⟨x, hx, rfl⟩; exact ⟨x, by unfold facW; rw [uniqS_mem]; exact hx, rfl⟩
  · rintro ⟨x, hx, rfl⟩; exact ⟨x, by unfold facW at hx; rw [uniqS_mem] at hx; exact hx, rfl⟩
theorem geW_spec {s : ByteArray} (h : geOk s = true) : geW s = geGo (fun n => (facL s n).map lpS) (s.size - 1) 2 (1, 1) := by
  have h1 := (geOk_iff.1 h).2.2
  unfold geW
  rw [if_pos h]
  obtain ⟨m, hm⟩ : ∃ m, s.size = m + 1 := ⟨s.size - 1, by omega⟩
  rw [hm, Nat.add_sub_cancel]
  show geGo _ m 2 (stepL 1 (1, 1) ((facL s 1).map lpS)) = _
  congr 1
  rcases stepL_is 1 1 1 (by omega) ((facL s 1).map lpS) with ⟨h1, _⟩ | ⟨p, h1, h2, h3, _⟩
  · exact h1
  · obtain ⟨x, hx, rfl⟩ := List.mem_map.1 h2
    obtain ⟨i, hi, rfl⟩ := facL_mem.1 hx
    have := (lpS_bd (x := s.extract i (i + 1)) (by rw [ext_size s i (i + 1) hi (by omega)]; omega)).1
    omega
theorem ret_ge {R : Nat × Nat} {a b : Nat} (h : (a, b) = R) : Ending.returned (.tuple #[.int .i64 (a : Int), .int .i64 (b : Int)]) = .returned (.tuple #[.int .i64 ((R.1 : Nat) : Int), .int .i64 ((R.2 : Nat) : Int)]) := by subst h; rfl
theorem mul_nat {a b m : Nat} (h : m = a * b) : (a : Int) * (b : Int) = (m : Int) := by rw [h]; exact (Int.natCast_mul a b).symm
theorem empty_beq {s : ByteArray} : (s.toList == (⟨#[]⟩ : ByteArray).toList) = s.toList.isEmpty := by
  rw [Lib.toList_data]
  cases h : s.data.toList with
  | nil => simp [Lib.toList_data]
  | cons a l => simp [Lib.toList_data]
theorem isEmptyT (s : ByteArray) : s.toList.isEmpty = decide (s.size = 0) := by
  rw [Lib.toList_data, size_len]
  cases s.data.toList <;> simp

set_option maxRecDepth 20000 in
set_option maxHeartbeats 2000000 in
theorem greatestExponent_i (s : ByteArray) (w : World) (hs : s.size ≤ 1073741000) :
    Calls Tryd.prog 8 #[.string s] w fun e w' => e = .returned (.tuple #[.int .i64 (((geW s).1 : Nat) : Int), .int .i64 (((geW s).2 : Nat) : Int)]) ∧ Below w.heap.size w w' := by
  have h1 := fun W => Lib.hid (isShortB_c s W (by omega))
  obtain ⟨R, hR⟩ : ∃ R, R = geW s := ⟨_, rfl⟩
  rw [← hR]
  cases hok : geOk s
  · have hr : Hid ((0, 0) = R) := by rw [hR]; simp [geW, hok, Hid]
    clear hR
    cases hsh : shortB s
    · rw [hsh] at h1
      go_enter Tryd.func8, Tryd.ntmps8
      go_wp2_with fail
      refine (h1 _).out.mono ?_
      rintro e w' ⟨rfl, rfl⟩
      go_wp2_with fail
      go_ret2
      exact ⟨ret_ge hr.out, Below.refl _ _⟩
    · have he : s.toList.isEmpty = true := by
        unfold geOk at hok; rw [hsh, Bool.true_and, decide_eq_false_iff_not] at hok
        rw [isEmptyT]; exact decide_eq_true (by omega)
      have he2 : (s.toList == (⟨#[]⟩ : ByteArray).toList) = true := by rw [empty_beq]; exact he
      rw [hsh] at h1
      go_enter Tryd.func8, Tryd.ntmps8
      go_wp2_with fail
      refine (h1 _).out.mono ?_
      rintro e w' ⟨rfl, rfl⟩
      go_wp2_with fail
      go_ret2
      exact ⟨ret_ge hr.out, Below.refl _ _⟩
  · obtain ⟨hw, h60, h01⟩ := geOk_iff.1 hok
    have hsh : shortB s = true := shortB_iff.2 ⟨hw, h60⟩
    have he : s.toList.isEmpty = false := by rw [isEmptyT]; exact decide_eq_false (by omega)
    have he2 : (s.toList == (⟨#[]⟩ : ByteArray).toList) = false := by rw [empty_beq]; exact he
    have hst : Hid (geGo (fun n => (facW s n).map lpS) (s.size + 1 - 1) 1 (1, 1) = R) := by rw [hR, geW_impl hok]; rfl
    rw [hsh] at h1
    clear hR hw hsh hok
    go_enter Tryd.func8, Tryd.ntmps8
    go_wp2_with fail
    refine (h1 _).out.mono ?_
    rintro e w' ⟨rfl, rfl⟩
    go_wp2_with fail
    go_loopw [4, 5, 6] (fun x y z wr => ∃ a b n : Nat, x = .int .i64 a ∧ y = .int .i64 b ∧ z = .int .i64 n ∧ 1 ≤ n ∧ n ≤ s.size + 1 ∧ a ≤ 60 ∧ b ≤ 60 ∧ Hid (geGo (fun n => (facW s n).map lpS) (s.size + 1 - n) n (a, b) = R) ∧ Below w.heap.size w wr) (fun _ _ z _ => s.size + 1 - (intOf z).toNat)
    case atStart => exact ⟨1, 1, 1, rfl, rfl, rfl, by omega, by omega, by omega, by omega, hst, Below.refl _ _⟩
    case round =>
      obtain ⟨a, b, n, rfl, rfl, rfl, hn1, hn, ha, hb, hg, hbw⟩ := hrel
      have hsz := hbw.size
      by_cases hlt : n ≤ s.size
      · have hin := geGo_in hg.out (by omega)
        have hf1 : s.size + 1 - n - 1 = s.size + 1 - (n + 1) := by omega
        rw [hf1] at hin
        have hfc := Lib.hid (factorsOf_c s n wr (by omega) (by omega))
        have hfl := facW_len s n
        have hfs := Lib.hid (fun x => @facW_size s x n)
        obtain ⟨L, hL⟩ : ∃ L, L = facW s n := ⟨_, rfl⟩
        rw [← hL] at hin hfc hfl hfs
        clear hL
        obtain ⟨R2, hR2⟩ : ∃ R2, R2 = stepL n (a, b) (L.map lpS) := ⟨_, rfl⟩
        rw [← hR2] at hin
        have hst2 : Hid (stepL n (a, b) ((L.drop 0).map lpS) = R2) := hR2.symm
        clear hR2
        go_wp2_with fail
        refine hfc.out.mono ?_
        rintro e w1 ⟨v, rfl, ho, hb1⟩
        have hrd := ho.rd
        have hbw1 := Lib.hid (hbw.trans (hb1.mono hsz))
        clear ho
        have hshape : ∃ ga cc, v = .slice ga L.length cc ∧ ∀ (k : Nat) x, L[k]? = some x → ∃ g, ga = some ⟨g, 0, none⟩ ∧ w1.cell? ⟨g, k, none⟩ = some (.string x) ∧ L.length ≤ cc := by
          rcases hrd with ⟨rfl, h0⟩ | ⟨g, cap, rfl, hcap, hc⟩
          · exact ⟨none, 0, by rw [h0]; rfl, fun k x hk => by rw [h0] at hk; simp at hk⟩
          · exact ⟨_, _, rfl, fun k x hk => ⟨g, rfl, hc k x hk, hcap⟩⟩
        obtain ⟨ga, cc, rfl, hcell⟩ := hshape
        have HC := Lib.hid hcell
        obtain ⟨N, hN⟩ : ∃ N, N = L.length := ⟨_, rfl⟩
        have HN := Lib.hid hN
        rw [← hN] at hfl ⊢
        clear hcell hrd hN
        go_wp2
        go_loopw [4, 5, 27] (fun x y z wi => ∃ a b k : Nat, x = .int .i64 a ∧ y = .int .i64 b ∧ z = .int .i64 k ∧ k ≤ N ∧ a ≤ 60 ∧ b ≤ 60 ∧ Hid (stepL n (a, b) ((L.drop k).map lpS) = R2) ∧ Below w.heap.size w wi ∧ Below w1.heap.size w1 wi) (fun _ _ z _ => N - (intOf z).toNat)
        case atStart => exact ⟨a, b, 0, rfl, rfl, rfl, by omega, ha, hb, hst2, hbw1.out, Below.refl _ _⟩
        case round =>
          obtain ⟨a, b, k, rfl, rfl, rfl, hk, ha, hb, hg2, hbw2, hbi⟩ := hrel
          by_cases hlk : k < N
          · obtain ⟨x, hx⟩ : ∃ x, L[k]? = some x := ⟨_, List.getElem?_eq_getElem (by rw [← HN.out]; exact hlk)⟩
            obtain ⟨g, rfl, cx0, hcap⟩ := HC.out k x hx
            rw [← HN.out] at hcap
            have cx : wr.cell? ⟨g, k, none⟩ = some (.string x) := by rw [hbi.cell (p := ⟨g, k, none⟩) (World.block_lt_of_cell? w1 _ cx0)]; exact cx0
            have hxs := hfs.out x (List.mem_of_getElem? hx)
            have hbd := lpS_bd (x := x) (by omega)
            obtain ⟨p, hp⟩ : ∃ p, p = lpS x := ⟨_, rfl⟩
            have hlp := Lib.hid (leastPeriod_c x wr (by omega))
            have hpe : lpOf x.data.toList = p := hp.symm
            rw [hpe] at hlp
            rw [← hp] at hbd
            have hdr : Hid (stepL n (stepE n (a, b) p) ((L.drop (k + 1)).map lpS) = R2) := by
              have hkl : k < L.length := by rw [← HN.out]; exact hlk
              have e0 := List.drop_eq_getElem_cons hkl
              have e1 : L[k] = x := (List.getElem?_eq_some_iff.1 hx).2
              have e2 := hg2.out
              rw [e0, e1, List.map_cons, stepL_cons, ← hp] at e2
              exact e2
            have b1 : (k : Int) < (N : Int) := by omega
            obtain ⟨m1, hm1⟩ : ∃ m1 : Nat, m1 = n * b := ⟨_, rfl⟩
            obtain ⟨m2, hm2⟩ : ∃ m2 : Nat, m2 = a * p := ⟨_, rfl⟩
            have q1 := mul_nat hm1
            have q2 := mul_nat hm2
            have z1 : m1 ≤ 61 * 60 := by rw [hm1]; exact Nat.mul_le_mul (by omega) hb
            have z2 : m2 ≤ 60 * 60 := by rw [hm2]; exact Nat.mul_le_mul ha (by omega)
            have e1 : IntKind.i64.wrap (m1 : Int) = (m1 : Int) := IntWalk.i64_in _ (by omega)
            have e2 : IntKind.i64.wrap (m2 : Int) = (m2 : Int) := IntWalk.i64_in _ (by omega)
            clear hx cx0 hp hpe
            by_cases hc : m2 < m1
            · have hnx : Hid (stepL n (n, p) ((L.drop (k + 1)).map lpS) = R2) := by have := hdr.out; rw [stepE_yes (by rw [← hm1, ← hm2]; exact hc)] at this; exact this
              have hd : decide ((m2 : Int) < (m1 : Int)) = true := decide_eq_true (by omega)
              clear hm1 hm2
              go_wp2_with fail
              refine hlp.out.mono ?_
              rintro e w2 ⟨rfl, d, rfl⟩
              go_wp2_with fail
              go_roundw
              case rel => exact ⟨n, p, k + 1, rfl, rfl, by go_num, by omega, by omega, by omega, hnx, below_drewN hbw2 _, below_drewN hbi _⟩
              case measure => simp [intOf] <;> omega
            · have hnx : Hid (stepL n (a, b) ((L.drop (k + 1)).map lpS) = R2) := by have := hdr.out; rw [stepE_no (by rw [← hm1, ← hm2]; exact hc)] at this; exact this
              have hd : decide ((m2 : Int) < (m1 : Int)) = false := decide_eq_false (by omega)
              clear hm1 hm2
              go_wp2_with fail
              refine hlp.out.mono ?_
              rintro e w2 ⟨rfl, d, rfl⟩
              go_wp2_with fail
              go_roundw
              case rel => exact ⟨a, b, k + 1, rfl, rfl, by go_num, by omega, by omega, by omega, hnx, below_drewN hbw2 _, below_drewN hbi _⟩
              case measure => simp [intOf] <;> omega
          · obtain rfl : k = N := by omega
            have hz : Hid ((a, b) = R2) := by have := hg2.out; rw [List.drop_of_length_le (by rw [← HN.out]; exact Nat.le_refl _)] at this; exact this
            have hnx : Hid (geGo (fun n => (facW s n).map lpS) (s.size + 1 - (n + 1)) (n + 1) (a, b) = R) := by rw [hz.out]; exact hin.out
            go_wp2
            go_roundw
            case rel => exact ⟨a, b, n + 1, rfl, rfl, by go_num, by omega, by omega, ha, hb, hnx, hbw2⟩
            case measure => simp [intOf] <;> omega
      · have hz : s.size + 1 - n = 0 := by omega
        have hfin : Hid ((a, b) = R) := by have := hg.out; rw [hz] at this; exact this
        go_wp2
        go_ret2
        exact ⟨ret_ge hfin.out, hbw⟩

end Go.Proofs.YtlmciomoimfajaaDoor
