/- Plain lemmas for FnGaps: the points of given numbers, the nearest ones, return times, counts. No program in sight. -/
import Derived.Test.YticbdpkmpnechaaV2
namespace Go.Proofs.Yticbdpkmpnechaa
set_option linter.unusedVariables false

def fR (p q i : Nat) : Nat := i * p % q
theorem fR_rot {p q : Nat} (hq : 0 < q) : Rot (fR p q) q := rot_mk hq
theorem fR_int (p q i : Nat) : ((i : Int) * (p : Int)) % (q : Int) = ((fR p q i : Nat) : Int) := by
  unfold fR; rw [Int.natCast_emod, Int.natCast_mul]
theorem gapsOk_nat {p q n : Nat} (hp : p < q) (hq : q ≤ 1000) (h1 : 1 ≤ n) (hn : n ≤ 400) : gapsOk p q n = true := gapsOk_iff.2 (by omega)
theorem pts_of {p q n : Nat} (hp : p < q) (hq : q ≤ 1000) (h1 : 1 ≤ n) (hn : n ≤ 400) : Pts (fR p q) q n (ptW p q n) := by
  have e : ptW p q n = uniq (ptL p q n) := by unfold ptW; rw [if_pos (gapsOk_nat hp hq h1 hn)]; simp
  refine ⟨fR_rot (by omega), h1, by rw [e]; exact uniq_asc _, fun x => ?_⟩
  rw [e, uniq_mem, ptL_mem]; rfl
theorem pts_len {p q n : Nat} (hp : p < q) (hq : q ≤ 1000) (h1 : 1 ≤ n) (hn : n ≤ 400) : (ptW p q n).length ≤ n := by
  have e : ptW p q n = uniq (ptL p q n) := by unfold ptW; rw [if_pos (gapsOk_nat hp hq h1 hn)]; simp
  rw [e]; have := uniq_len (ptL p q n); rw [ptL_len] at this; exact this
theorem nrst_best (p q : Nat) : ∀ k, 1 ≤ k → 1 ≤ (nrst p q k).1 ∧ (nrst p q k).1 ≤ k ∧ 1 ≤ (nrst p q k).2 ∧ (nrst p q k).2 ≤ k ∧ ∀ i, 1 ≤ i → i ≤ k → fR p q (nrst p q k).1 ≤ fR p q i ∧ fR p q i ≤ fR p q (nrst p q k).2
  | 0, h => by omega
  | 1, _ => by
    have e : nrst (p : Int) (q : Int) 1 = (1, 1) := by simp [nrst]
    rw [e]
    exact ⟨by omega, by omega, by omega, by omega, fun i h1 h2 => by rw [show i = 1 by omega]; exact ⟨Nat.le_refl _, Nat.le_refl _⟩⟩
  | k + 2, _ => by
    obtain ⟨h1, h2, h3, h4, h5⟩ := nrst_best p q (k + 1) (by omega)
    rw [nrst, fR_int, fR_int, fR_int]
    obtain ⟨l, hl⟩ : ∃ l, l = (nrst p q (k + 1)).1 := ⟨_, rfl⟩
    obtain ⟨u, hu⟩ : ∃ u, u = (nrst p q (k + 1)).2 := ⟨_, rfl⟩
    rw [← hl] at h1 h2
    rw [← hu] at h3 h4
    rw [← hl, ← hu] at h5 ⊢
    have h6 := h5 l h1 h2
    have h7 := h5 u h3 h4
    refine ⟨?_, ?_, ?_, ?_, fun i a b => ?_⟩
    · simp only; split <;> omega
    · simp only; split <;> omega
    · simp only; split <;> omega
    · simp only; split <;> omega
    · simp only
      rcases Nat.lt_or_ge i (k + 2) with c | c
      · have := h5 i a (by omega)
        constructor
        · split <;> omega
        · split <;> omega
      · rw [show i = k + 1 + 1 by omega]
        constructor
        · split <;> omega
        · split <;> omega
theorem near_ok {p q n : Nat} (hp : p < q) (hq : q ≤ 1000) (h1 : 2 ≤ n) (hn : n ≤ 400) :
    ∃ u v : Nat, nearLo p q n = (u : Int) ∧ nearHi p q n = (v : Int) ∧ 1 ≤ u ∧ u < n ∧ 1 ≤ v ∧ v < n ∧ ((ptW p q n).length = n → ((fR p q u : Nat) : Int) = gAt (ptW p q n) 1 ∧ ((fR p q v : Nat) : Int) = gAt (ptW p q n) (n - 1)) := by
  have hk : ((n : Int) - 1).toNat = n - 1 := by omega
  obtain ⟨b1, b2, b3, b4, b5⟩ := nrst_best p q (n - 1) (by omega)
  have hcond : gapsOk p q n = true ∧ (n : Int) ≠ 1 := ⟨gapsOk_nat hp hq (by omega) hn, by omega⟩
  refine ⟨(nrst p q (n - 1)).1, (nrst p q (n - 1)).2, ?_, ?_, b1, by omega, b3, by omega, fun hl => ?_⟩
  · unfold nearLo; rw [if_pos hcond, hk]
  · unfold nearHi; rw [if_pos hcond, hk]
  · have P := pts_of hp hq (show 1 ≤ n by omega) hn
    have e : ptW p q n = uniq (ptL p q n) := by unfold ptW; rw [if_pos hcond.1]; simp
    have hinj : ∀ i j, i < j → j < n → fR p q i ≠ fR p q j := by
      intro i j hij hj he
      have hl' : (uniq (ptL p q n)).length = (ptL p q n).length := by rw [← e, ptL_len]; exact hl
      refine uniq_inj hl' i j hij (by rw [ptL_len]; exact hj) ?_
      have hc := congrArg (fun x : Nat => (x : Int)) he
      unfold fR at hc
      simpa [ptL] using hc
    obtain ⟨hX1, hX0⟩ := P.zero
    obtain ⟨u, hu⟩ : ∃ u, u = (nrst p q (n - 1)).1 := ⟨_, rfl⟩
    obtain ⟨v, hv⟩ : ∃ v, v = (nrst p q (n - 1)).2 := ⟨_, rfl⟩
    rw [← hu, ← hv] at b5 ⊢
    rw [← hu] at b1 b2
    rw [← hv] at b3 b4
    constructor
    · -- the least
      have hfu : fR p q u ≠ 0 := by
        have := hinj 0 u (by omega) (by omega)
        have z := P.rot.zero
        omega
      obtain ⟨j, hj, ej⟩ := mem_gAt ((P.mem _).2 ⟨u, by omega, rfl⟩)
      have hj0 : j ≠ 0 := by rintro rfl; rw [hX0] at ej; omega
      obtain ⟨k, hk2, ek⟩ := P.at (i := 1) (by omega)
      have hg1 := asc_gAt P.asc 0 1 (by omega) (by omega)
      have hk0 : k ≠ 0 := by
        rintro rfl
        have z := P.rot.zero
        omega
      have := (b5 k (by omega) (by omega)).1
      rcases Nat.eq_or_lt_of_le (show 1 ≤ j by omega) with c | c
      · rw [← c] at ej; exact ej.symm
      · have := asc_gAt P.asc 1 j c hj; omega
    · obtain ⟨j, hj, ej⟩ := mem_gAt ((P.mem _).2 ⟨v, by omega, rfl⟩)
      obtain ⟨k, hk2, ek⟩ := P.at (i := n - 1) (by omega)
      have hle : fR p q k ≤ fR p q v := by
        rcases Nat.eq_zero_or_pos k with c | c
        · rw [c]; have z := P.rot.zero; omega
        · exact (b5 k c (by omega)).2
      rcases Nat.eq_or_lt_of_le (show j ≤ n - 1 by omega) with c | c
      · rw [c] at ej; exact ej.symm
      · have := asc_gAt P.asc j (n - 1) c (by omega); omega

/-! return times -/
theorem hit_iff {p q lo hi fr j : Nat} (hp : p < q) (hf : fr < q) (hh : hi < q) : inB (((fr : Int) + (j : Int) * (p : Int)) % (q : Int)) lo hi = true ↔ (lo ≤ fr + fR p q j ∧ fr + fR p q j ≤ hi) ∨ (lo + q ≤ fr + fR p q j ∧ fr + fR p q j ≤ hi + q) := by
  have e : ((fr : Int) + (j : Int) * (p : Int)) % (q : Int) = (((fr + fR p q j) % q : Nat) : Int) := by
    rw [Int.natCast_emod, Int.natCast_add, ← fR_int, Int.add_emod_emod]
  rw [e, inB_iff]
  have hl := (fR_rot (p := p) (show 0 < q by omega)).lt j
  rcases Nat.lt_or_ge (fr + fR p q j) q with c | c
  · rw [Nat.mod_eq_of_lt c]; omega
  · rw [Nat.mod_eq_sub_mod c, Nat.mod_eq_of_lt (by omega)]; omega

theorem rtGo_first {p q lo hi fr : Int} : ∀ (n i : Nat), (∃ j, i ≤ j ∧ j < i + n ∧ inB ((fr + (j : Int) * p) % q) lo hi = true) →
    ∃ j : Nat, rtGo p q lo hi fr n i = (j : Int) ∧ i ≤ j ∧ j < i + n ∧ inB ((fr + (j : Int) * p) % q) lo hi = true ∧ ∀ k, i ≤ k → k < j → ¬ inB ((fr + (k : Int) * p) % q) lo hi = true
  | 0, i, ⟨j, h1, h2, _⟩ => by omega
  | n + 1, i, ⟨j, h1, h2, h3⟩ => by
    by_cases h : inB ((fr + (i : Int) * p) % q) lo hi = true
    · exact ⟨i, rtGo_hit h, Nat.le_refl _, by omega, h, fun k a b => by omega⟩
    · have hij : i + 1 ≤ j := by
        rcases Nat.eq_or_lt_of_le h1 with c | c
        · subst c; exact absurd h3 h
        · exact c
      obtain ⟨j', e, a1, a2, a3, a4⟩ := rtGo_first n (i + 1) ⟨j, hij, by omega, h3⟩
      rw [rtGo_miss h]
      refine ⟨j', e, by omega, by omega, a3, fun k b1 b2 => ?_⟩
      rcases Nat.eq_or_lt_of_le b1 with c | c
      · subst c; exact h
      · exact a4 k c b2
theorem rt_first {p q lo hi fr : Nat} (hp : p < q) (hq : q ≤ 1000) (h1 : lo ≤ fr) (h2 : fr ≤ hi) (hh : hi < q) :
    ∃ r : Nat, retTime p q lo hi fr = (r : Int) ∧ IsRet (fR p q) q lo hi fr r ∧ (∀ j, j < r → ¬ IsRet (fR p q) q lo hi fr j) ∧ inB (((fr : Int) + (r : Int) * (p : Int)) % (q : Int)) lo hi = true ∧ r ≤ 1000 := by
  have hok : rtOk p q lo hi fr = true := by
    unfold rtOk; simp only [Bool.and_eq_true, inB_iff]; omega
  have hq0 : fR p q q = 0 := by unfold fR; exact Nat.mul_mod_right q p
  obtain ⟨r, e, a1, a2, a3, a4⟩ := rtGo_first (p := p) (q := q) (lo := lo) (hi := hi) (fr := fr) 1000 1 ⟨q, by omega, by omega, (hit_iff hp (by omega) hh).2 (by rw [hq0]; omega)⟩
  refine ⟨r, ?_, ⟨a1, (hit_iff hp (by omega) hh).1 a3⟩, fun j hj hr => ?_, a3, by omega⟩
  · unfold retTime; rw [if_pos hok]; exact e
  · exact a4 j hr.1 hj ((hit_iff hp (by omega) hh).2 hr.2)
theorem rtL_mem {p q lo hi x : Int} : ∀ k, x ∈ rtL p q lo hi k ↔ ∃ j : Nat, j < k ∧ 0 < retTime p q lo hi (lo + j) ∧ x = retTime p q lo hi (lo + j)
  | 0 => by simp [rtL]
  | k + 1 => by
    rw [rtL, List.mem_append, rtL_mem k]
    constructor
    · rintro (⟨j, h1, h2⟩ | h)
      · exact ⟨j, by omega, h2⟩
      · split at h
        · rename_i hc; simp at h; exact ⟨k, by omega, hc, h⟩
        · simp at h
    · rintro ⟨j, h1, h2, h3⟩
      rcases Nat.lt_or_ge j k with c | c
      · exact .inl ⟨j, c, h2, h3⟩
      · have : j = k := by omega
        subst this
        exact .inr (by rw [if_pos h2]; simp [h3])
theorem times_ok {p q lo hi fr : Nat} (hp : p < q) (hq : q ≤ 1000) (h1 : lo ≤ fr) (h2 : fr ≤ hi) (hh : hi < q) :
    1 ≤ (rtsW p q lo hi).length ∧ (rtsW p q lo hi).length ≤ 3 ∧ retTime p q lo hi fr ∈ rtsW p q lo hi := by
  have hok : rtsOk p q lo hi = true := rtsOk_iff.2 (by omega)
  have e : rtsW p q lo hi = uniq (rtL p q lo hi ((hi : Int) + 1 - lo).toNat) := by unfold rtsW; rw [if_pos hok]
  have hin : ∀ y : Nat, lo ≤ y → y ≤ hi → retTime p q lo hi y ∈ rtsW p q lo hi := by
    intro y a b
    obtain ⟨r, er, hr, _⟩ := rt_first hp hq a b hh
    rw [e, uniq_mem, rtL_mem]
    have hy : (lo : Int) + ((y - lo : Nat) : Int) = (y : Int) := by omega
    refine ⟨y - lo, by omega, ?_, ?_⟩
    · rw [hy, er]; have := hr.1; omega
    · rw [hy]
  have hmem := hin fr h1 h2
  obtain ⟨a, b, h3⟩ := three_times (fR_rot (p := p) (show 0 < q by omega)) (Nat.le_trans h1 h2) hh ⟨q, by omega, by unfold fR; exact Nat.mul_mod_right q p⟩
  refine ⟨List.length_pos_of_mem hmem, ?_, hmem⟩
  rw [e]
  refine asc_three' (a := (a : Int)) (b := (b : Int)) (c := (a : Int) + (b : Int)) (uniq_asc _) fun x hx => ?_
  rw [uniq_mem, rtL_mem] at hx
  obtain ⟨j, hj, _, ex⟩ := hx
  obtain ⟨r, er, hr, hm, _⟩ := rt_first (lo := lo) (hi := hi) (fr := lo + j) hp hq (by omega) (by omega) hh
  have := h3 (lo + j) r (by omega) (by omega) hr hm
  have hc : (lo : Int) + (j : Int) = ((lo + j : Nat) : Int) := by omega
  rw [ex, hc, er]; omega

/-! counts -/
theorem cnt_all {p q n : Nat} (hq : 0 < q) : ∀ k, cntIn p q 0 (q - 1) k = (k : Int)
  | 0 => rfl
  | k + 1 => by
    have hl := (fR_rot (p := p) hq).lt k
    rw [cntIn_hit (by rw [fR_int, inB_iff]; omega), cnt_all (n := n) hq k]; rfl
theorem cnt_split {p q : Nat} {lo hi : Int} (hq : 0 < q) (h0 : 0 ≤ lo) (h1 : lo ≤ hi) (h2 : hi ≤ q - 1) : ∀ k : Nat, cntIn p q lo hi k + cntIn p q 0 (lo - 1) k + cntIn p q (hi + 1) (q - 1) k = (k : Int)
  | 0 => rfl
  | k + 1 => by
    have hl := (fR_rot (p := p) hq).lt k
    have ih := cnt_split (p := p) hq h0 h1 h2 k
    unfold cntIn
    rw [fR_int]
    have e1 : ∀ a b : Int, (if inB ((fR p q k : Nat) : Int) a b = true then (1 : Int) else 0) = if a ≤ ((fR p q k : Nat) : Int) ∧ ((fR p q k : Nat) : Int) ≤ b then 1 else 0 := fun a b => by
      by_cases c : a ≤ ((fR p q k : Nat) : Int) ∧ ((fR p q k : Nat) : Int) ≤ b
      · rw [if_pos c, if_pos (inB_iff.2 c)]
      · rw [if_neg c, if_neg (fun h => c (inB_iff.1 h))]
    rw [e1, e1, e1]
    split <;> split <;> split <;> omega
theorem count_ok {p q n : Nat} {lo hi : Int} (hp : p < q) (hq : q ≤ 1000) (hn1 : 1 ≤ n) (hn : n ≤ 400) (h0 : 0 ≤ lo) (h1 : lo ≤ hi) (h2 : hi ≤ q - 1) :
    countIn p q n 0 (q - 1) = (n : Int) ∧ countIn p q n lo hi + countIn p q n 0 (lo - 1) + countIn p q n (hi + 1) (q - 1) = (n : Int) := by
  have hok := gapsOk_nat hp hq hn1 hn
  unfold countIn
  rw [if_pos hok, if_pos hok, if_pos hok, if_pos hok]
  exact ⟨cnt_all (n := n) (by omega) n, cnt_split (by omega) h0 h1 h2 n⟩
end Go.Proofs.Yticbdpkmpnechaa
