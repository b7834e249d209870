/- Contract of PointsOf in the reference: the same ascending points. Conditions: none beyond int64 arguments. -/
import Derived.Test.YticbdpkmpnechaaS2
namespace Go.Proofs.Yticbdpkmpnechaa
open Go.RowKit Go.Sort
set_option linter.unusedVariables false

theorem info_bool : (Try.prog.info? 4).map (fun i => (i.zero, i.size, i.bytes)) = some (some (.bool false), 1, 1) := by kernel_rfl
/-- is x one of the first k points -/
def isPt (p q k x : Nat) : Bool := (List.range k).any fun i => i * p % q == x
def boV (p q k : Nat) : List Value := (List.range q).map fun x => Value.bool (isPt p q k x)
theorem boV_len (p q k : Nat) : (boV p q k).length = q := by simp [boV]
theorem boV_get {p q k x : Nat} (h : x < q) : (boV p q k)[x]? = some (.bool (isPt p q k x)) := by simp [boV, h]
theorem boV_zero (p q : Nat) : boV p q 0 = List.replicate q (.bool false) := by
  apply List.ext_getElem?
  intro j
  by_cases h : j < q
  · rw [boV_get h]; simp [isPt, h]
  · rw [List.getElem?_eq_none (by rw [boV_len]; omega), List.getElem?_eq_none (by simp; omega)]
theorem isPt_succ (p q k x : Nat) : isPt p q (k + 1) x = (isPt p q k x || (k * p % q == x)) := by simp [isPt, List.range_succ]
theorem boV_set {p q k : Nat} : (boV p q k).set (k * p % q) (.bool true) = boV p q (k + 1) := by
  apply List.ext_getElem?
  intro j
  rw [List.getElem?_set]
  by_cases h : j < q
  · rw [boV_get h, boV_get h, isPt_succ, boV_len]
    by_cases he : k * p % q = j
    · subst he; simp [h]
    · rw [if_neg he]
      have : (k * p % q == j) = false := by simpa using he
      rw [this, Bool.or_false]
  · rw [List.getElem?_eq_none (l := boV p q k) (by rw [boV_len]; omega), List.getElem?_eq_none (l := boV p q (k + 1)) (by rw [boV_len]; omega), boV_len]
    split
    · split
      · omega
      · rfl
    · rfl
/-- the points below j, ascending -/
def ascP (p q n : Nat) : Nat → List Int
  | 0 => []
  | j + 1 => ascP p q n j ++ if isPt p q n j = true then [(j : Int)] else []
theorem ascP_yes {p q n j : Nat} (h : isPt p q n j = true) : ascP p q n (j + 1) = ascP p q n j ++ [(j : Int)] := by rw [ascP, if_pos h]
theorem ascP_no {p q n j : Nat} (h : isPt p q n j = false) : ascP p q n (j + 1) = ascP p q n j := by rw [ascP, if_neg (by rw [h]; decide), List.append_nil]
theorem ascP_len (p q n : Nat) : ∀ j, (ascP p q n j).length ≤ j
  | 0 => by simp [ascP]
  | j + 1 => by have := ascP_len p q n j; unfold ascP; split <;> simp <;> omega
theorem ascP_mem {p q n : Nat} {x : Int} : ∀ j, x ∈ ascP p q n j ↔ ∃ i : Nat, i < j ∧ x = i ∧ isPt p q n i = true
  | 0 => by simp [ascP]
  | j + 1 => by
    have ih := ascP_mem (p := p) (q := q) (n := n) (x := x) j
    unfold ascP
    rw [List.mem_append, ih]
    constructor
    · rintro (⟨i, h1, h2, h3⟩ | h)
      · exact ⟨i, by omega, h2, h3⟩
      · split at h
        · rename_i hp; simp at h; exact ⟨j, by omega, h, hp⟩
        · simp at h
    · rintro ⟨i, h1, h2, h3⟩
      by_cases hi : i < j
      · exact .inl ⟨i, hi, h2, h3⟩
      · have : i = j := by omega
        subst this
        exact .inr (by rw [if_pos h3]; simp [h2])
theorem ascP_asc (p q n : Nat) : ∀ j, Asc (ascP p q n j)
  | 0 => by simp [ascP, Asc]
  | j + 1 => by
    unfold ascP Asc
    rw [List.pairwise_append]
    refine ⟨ascP_asc p q n j, by split <;> simp, fun x hx y hy => ?_⟩
    obtain ⟨i, h1, rfl, _⟩ := (ascP_mem j).1 hx
    split at hy
    · simp at hy; omega
    · simp at hy
theorem pts_eq {p q n : Nat} (hp : p < q) : uniq (ptL p q n) = ascP p q n q := by
  refine uniq_is (ascP_asc p q n q) fun x => ?_
  rw [ascP_mem, ptL_mem]
  constructor
  · rintro ⟨i, h1, rfl, h3⟩
    unfold isPt at h3
    obtain ⟨k, hk, he⟩ := List.any_eq_true.1 h3
    exact ⟨k, List.mem_range.1 hk, by rw [beq_iff_eq.1 he]⟩
  · rintro ⟨k, hk, rfl⟩
    exact ⟨k * p % q, Nat.mod_lt _ (by omega), rfl, List.any_eq_true.2 ⟨k, List.mem_range.2 hk, by simp⟩⟩

def OwnBo (w : World) (B g p q k : Nat) : Prop := w.ownsRow B 4 1 (.slice (some ⟨g, 0, none⟩) q q) q (boV p q k)
theorem bo_cell {w : World} {B g p q k : Nat} (h : OwnBo w B g p q k) {r : Nat} (hr : r < q) : w.cell? ⟨g, r, none⟩ = some (.bool (isPt p q k r)) ∧ w.frozen? ⟨g, r, none⟩ = false := by
  unfold OwnBo at h
  refine ⟨?_, h.frozenAt _⟩
  rw [h.cellAt r (by omega), boV_get hr]
theorem bo_step {w : World} {B g p q k r : Nat} (h : OwnBo w B g p q k) (hr : r = k * p % q) : OwnBo (w.setCell ⟨g, r, none⟩ (.bool true)) B g p q (k + 1) ∧ w.grownBy (w.setCell ⟨g, r, none⟩ (.bool true)) (some g) := by
  have := World.ownsRow.stored (h : w.ownsRow B 4 1 _ q _) r (.bool true)
  subst hr
  rw [boV_set] at this
  exact this

set_option maxHeartbeats 2000000 in
theorem pointsOf_s (p q n : Int) (w : World) :
    Calls Try.prog 15 #[.int .i64 p, .int .i64 q, .int .i64 n] w (RetI (ptW p q n) w) := by
  have h1 := fun W => Lib.hid (l11Ok_c p q n W)
  cases hok : gapsOk p q n
  · have hr : Hid (ptW p q n = []) := by simp [ptW, hok, Hid]
    rw [hok] at h1
    go_enter Try.func15, Try.ntmps15
    go_wp2_with fail
    refine (h1 _).out.mono ?_
    rintro e w' ⟨rfl, rfl⟩
    go_wp2_with fail
    go_ret
    exact retI_nil _ _ _ hr.out (Below.refl _ _)
  · have hb := gapsOk_iff.1 hok
    obtain ⟨a, rfl⟩ : ∃ a : Nat, p = a := ⟨p.toNat, by omega⟩
    obtain ⟨b, rfl⟩ : ∃ b : Nat, q = b := ⟨q.toNat, by omega⟩
    obtain ⟨c, rfl⟩ : ∃ c : Nat, n = c := ⟨n.toNat, by omega⟩
    have hr : Hid (ptW a b c = ascP a b c b) := by unfold Hid ptW; rw [if_pos hok]; exact pts_eq (by omega)
    obtain ⟨i, hi, hz, hi1, hi2⟩ := info_parts info_bool
    have INFO := Lib.hid hi
    have HZ := Lib.hid hz
    have HI1 := Lib.hid hi1
    have HI2 := Lib.hid hi2
    rw [hok] at h1
    clear hok hi hz hi1 hi2
    go_enter Try.func15, Try.ntmps15
    go_wp2_with fail
    refine (h1 _).out.mono ?_
    rintro e w' ⟨rfl, rfl⟩
    go_wp2_with (at_make; refine wpList_make_full _ rfl _ _ _ rfl w.heap.size 4 i _ 1 Try.underlying46 INFO.out HZ.out HI1.out .i64 .i64 _ _ b rfl rfl rfl rfl (by rw [HI2.out]; omega) (by unfold maxLen; omega) (Nat.le_refl _) ?_; intro w1 hown1 hg1)
    have hbo : OwnBo w1 w.heap.size w.heap.size a b 0 := by
      have e : (madeCells (Value.bool false).cells (b * 1)).toList = boV a b 0 := by
        rw [boV_zero]
        apply List.ext_getElem?
        intro j
        by_cases h : j < b
        · simp [madeCells, Value.cells, h, Nat.mod_one]
        · rw [List.getElem?_eq_none (by rw [Array.length_toList, size_madeCells]; omega), List.getElem?_eq_none (by simp; omega)]
      unfold OwnBo
      rw [← e]; exact hown1
    have HBO := Lib.hid hbo
    have hB1 : Below w.heap.size w w1 := (Below.refl w.heap.size w).grown hg1 (Nat.le_refl _) (fun k hk => (by cases hk))
    have hS1 : w.heap.size < w1.heap.size := by
      have := (World.ownsRow.lt (h := (hbo : w1.ownsRow w.heap.size 4 1 _ b _)) w.heap.size rfl).2
      exact this
    obtain ⟨G, hG⟩ : ∃ G, G = w.heap.size := ⟨_, rfl⟩
    rw [← hG] at HBO hB1 hS1 ⊢
    have HG := Lib.hid hG
    clear hbo hown1 hg1 INFO HZ HI1 HI2 hG
    go_loopw [8] (fun i wr => ∃ k : Nat, k ≤ c ∧ i = .int .i64 k ∧ Hid (OwnBo wr G G a b k) ∧ Below G w wr ∧ G < wr.heap.size) (fun i _ => c - (intOf i).toNat)
    case atStart => exact ⟨0, by omega, rfl, HBO, hB1, hS1⟩
    case round =>
      obtain ⟨k, hk, rfl, ho, hbw, hgs⟩ := hrel
      by_cases hlt : k < c
      · have hm1 : k * a ≤ 400 * 1000 := Nat.mul_le_mul (by omega) (by omega)
        obtain ⟨m, hm⟩ : ∃ m : Nat, m = k * a := ⟨_, rfl⟩
        have hmi : (k : Int) * (a : Int) = (m : Int) := by rw [hm]; exact (Int.natCast_mul k a).symm
        obtain ⟨r, hrr⟩ : ∃ r : Nat, r = m % b := ⟨_, rfl⟩
        have hrb : r < b := by rw [hrr]; exact Nat.mod_lt _ (by omega)
        have hri : (m : Int).tmod (b : Int) = (r : Int) := by rw [hrr, Int.tmod_eq_emod_of_nonneg (by omega)]; exact (Int.natCast_emod _ _).symm
        have hri' : (m : Int) % (b : Int) = (r : Int) := by rw [hrr]; exact (Int.natCast_emod _ _).symm
        have hw1 : IntKind.i64.wrap (m : Int) = (m : Int) := IntWalk.i64_in _ (by omega)
        have hzq : ((b : Int) == 0) = false := by simp; omega
        have hst := Lib.hid (bo_step (r := r) ho.out (by rw [hrr, hm]))
        obtain ⟨c1, c2⟩ := bo_cell ho.out hrb
        have b1 : (r : Int) < (b : Int) := by omega
        clear hm hrr hm1
        go_wp2
        go_roundw
        case rel => exact ⟨k + 1, by omega, by go_num, hst.out.1, hbw.grown hst.out.2 (by omega) (fun j hj => (by cases hj; exact Nat.le_refl _)), Nat.lt_of_lt_of_le hgs hst.out.2.size⟩
        case measure => simp [intOf] <;> omega
      · obtain rfl : k = c := by omega
        obtain ⟨W0, rfl⟩ : ∃ W0, W0 = wr := ⟨_, rfl⟩
        have hst0 : Hid (OwnI (W0.alloc (.cells #[] 3)) W0.heap.size (.slice (some ⟨W0.heap.size, 0, none⟩) 0 0) []) := ownI_empty W0 (Nat.le_refl _)
        go_wp2
        go_loopw [9, 34] (fun o i wi => ∃ (j : Nat) (v : Value), j ≤ b ∧ i = .int .i64 j ∧ v = o ∧ Hid (OwnI wi W0.heap.size v (ascP a b k j)) ∧ Below W0.heap.size W0 wi) (fun _ i _ => b - (intOf i).toNat)
        case atStart => exact ⟨0, _, by omega, rfl, rfl, hst0, (Below.refl _ _).alloc (Nat.le_refl _) _⟩
        case round =>
          obtain ⟨j, v, hj, rfl, rfl, hown, hbi⟩ := hrel
          have hsz := hbi.size
          by_cases hlj : j < b
          · have c0 := (bo_cell ho.out hlj).1
            have c1 : wr.cell? ⟨G, j, none⟩ = some (.bool (isPt a b k j)) := by rw [hbi.cell (p := ⟨G, j, none⟩) hgs]; exact c0
            have b1 : (j : Int) < (b : Int) := by omega
            have hlen := ascP_len a b k j
            clear c0
            cases hp : isPt a b k j
            · have hnx := Lib.hid (ascP_no hp)
              rw [hp] at c1
              clear hp
              go_wp2
              go_roundw
              case rel => exact ⟨j + 1, v, by omega, by go_num, rfl, by rw [hnx.out]; exact hown, hbi⟩
              case measure => simp [intOf] <;> omega
            · have hnx := Lib.hid (ascP_yes hp)
              rw [hp] at c1
              clear hp
              go_wp2_with (at_builtin; refine appI rfl _ _ rfl W0.heap.size _ (ascP a b k j) rfl (by exact hown.out) _ rfl (by omega) (by exact hsz) ?_; intro v' w' hown' hg')
              go_roundw
              case rel => exact ⟨j + 1, v', by omega, by go_num, rfl, by rw [hnx.out]; exact hown', below_app hbi hown.out hg' hsz⟩
              case measure => simp [intOf] <;> omega
          · obtain rfl : j = b := by omega
            have hfin : Hid (OwnI wr w.heap.size v (ptW a j k)) := by rw [hr.out]; exact own_base hown.out (by rw [← HG.out]; omega)
            have hbf : Hid (Below w.heap.size w wr) := by rw [← HG.out]; exact hbw.trans (hbi.mono (by omega))
            go_wp2
            go_ret
            exact ⟨_, rfl, hfin.out, hbf.out⟩
end Go.Proofs.Yticbdpkmpnechaa
