/- Plain lemmas: points on a circle have at most three distances, the greatest of three is the sum of the others; a point of an arc comes back after at most three times. No program in sight. -/
import Derived.Test.YticbdpkmpnechaaS3
import Derived.Test.YticbdpkmpnechaaS4
namespace Go.Proofs.Yticbdpkmpnechaa
set_option linter.unusedVariables false

/-- steps round a circle of length q -/
structure Rot (f : Nat → Nat) (q : Nat) : Prop where
  lt : ∀ i, f i < q
  zero : f 0 = 0
  add : ∀ i j, f (i + j) = f i + f j ∨ f (i + j) + q = f i + f j
theorem rot_mk {p q : Nat} (hq : 0 < q) : Rot (fun i => i * p % q) q := by
  refine ⟨fun i => Nat.mod_lt _ hq, by simp, fun i j => ?_⟩
  have h1 := Nat.mod_lt (i * p) hq
  have h2 := Nat.mod_lt (j * p) hq
  have h3 := Nat.mod_lt ((i + j) * p) hq
  have e : (i + j) * p % q = (i * p % q + j * p % q) % q := by rw [Nat.add_mul, Nat.add_mod]
  show (i + j) * p % q = i * p % q + j * p % q ∨ (i + j) * p % q + q = i * p % q + j * p % q
  rw [e]
  rcases Nat.lt_or_ge (i * p % q + j * p % q) q with h | h
  · left; exact Nat.mod_eq_of_lt h
  · right; rw [Nat.mod_eq_sub_mod h, Nat.mod_eq_of_lt (by omega)]; omega
/-- a least number with a property -/
theorem least_of {P : Nat → Prop} {n : Nat} (h : P n) : ∃ m, P m ∧ m ≤ n ∧ ∀ k, k < m → ¬ P k := by
  induction n using Nat.strongRecOn with
  | ind n ih =>
    rcases Classical.em (∃ k, k < n ∧ P k) with ⟨k, hk, hp⟩ | hno
    · obtain ⟨m, h1, h2, h3⟩ := ih k hk hp
      exact ⟨m, h1, by omega, h3⟩
    · exact ⟨n, h, Nat.le_refl _, fun k hk hp => hno ⟨k, hk, hp⟩⟩
/-- an index below n at which a function is least -/
theorem argmin (g : Nat → Nat) : ∀ n, 2 ≤ n → ∃ u, 1 ≤ u ∧ u < n ∧ ∀ i, 1 ≤ i → i < n → g u ≤ g i
  | 0, h => by omega
  | 1, h => by omega
  | 2, _ => ⟨1, by omega, by omega, fun i h1 h2 => by rw [show i = 1 by omega]; exact Nat.le_refl _⟩
  | n + 3, _ => by
    obtain ⟨u, h1, h2, h3⟩ := argmin g (n + 2) (by omega)
    rcases Nat.lt_or_ge (g (n + 2)) (g u) with h | h
    · refine ⟨n + 2, by omega, by omega, fun i a b => ?_⟩
      rcases Nat.lt_or_ge i (n + 2) with c | c
      · have := h3 i a c; omega
      · rw [show i = n + 2 by omega]; exact Nat.le_refl _
    · refine ⟨u, h1, by omega, fun i a b => ?_⟩
      rcases Nat.lt_or_ge i (n + 2) with c | c
      · exact h3 i a c
      · rw [show i = n + 2 by omega]; exact h
def InS (f : Nat → Nat) (q n y : Nat) : Prop := ∃ k, k < n ∧ (f k = y ∨ f k + q = y)
def IsGap (f : Nat → Nat) (q n x d : Nat) : Prop := 1 ≤ d ∧ InS f q n (x + d) ∧ ∀ e, 0 < e → e < d → ¬ InS f q n (x + e)
theorem gap_uniq {f : Nat → Nat} {q n x d d' : Nat} (h : IsGap f q n x d) (h' : IsGap f q n x d') : d = d' := by
  rcases Nat.lt_trichotomy d d' with c | c | c
  · exact absurd h.2.1 (h'.2.2 d (by have := h.1; omega) c)
  · exact c
  · exact absurd h'.2.1 (h.2.2 d' (by have := h'.1; omega) c)

/-- all points differ: three distances -/
theorem gaps_far {f : Nat → Nat} {q n : Nat} (R : Rot f q) (hn : 2 ≤ n) (hd : ∀ m, 1 ≤ m → m < n → f m ≠ 0) :
    ∃ a b, 1 ≤ a ∧ 1 ≤ b ∧ ∀ i, i < n → IsGap f q n (f i) a ∨ IsGap f q n (f i) b ∨ IsGap f q n (f i) (a + b) := by
  obtain ⟨u, hu1, hun, hu⟩ := argmin f n hn
  obtain ⟨v, hv1, hvn, hv⟩ := argmin (fun i => q - f i) n hn
  have lu := R.lt u
  have lv := R.lt v
  have du := hd u hu1 hun
  have dv := hd v hv1 hvn
  obtain ⟨a, ha⟩ : ∃ a, a = f u := ⟨_, rfl⟩
  obtain ⟨b, hb⟩ : ∃ b, b = q - f v := ⟨_, rfl⟩
  have hmina : ∀ i, 1 ≤ i → i < n → a ≤ f i := fun i h1 h2 => by rw [ha]; exact hu i h1 h2
  have hminb : ∀ i, 1 ≤ i → i < n → b ≤ q - f i := fun i h1 h2 => by rw [hb]; exact hv i h1 h2
  have hab : a + b ≤ q := by have := hminb u hu1 hun; omega
  have huv : n ≤ u + v := by
    rcases Nat.lt_or_ge (u + v) n with h | h
    · have h1 := hmina (u + v) (by omega) h
      have h2 := hminb (u + v) (by omega) h
      have h3 := hd (u + v) (by omega) h
      have h4 := R.lt (u + v)
      rcases R.add u v with e | e <;> omega
    · exact h
  -- a right shift at m below u is no a or less; and so on
  have hright : ∀ m e, 1 ≤ m → m < u → f m = e → a < e ∧ (e < a + b → False) := by
    intro m e h1 h2 he
    have h3 := hmina m h1 (by omega)
    have h4 := hmina (u - m) (by omega) (by omega)
    have h5 := hminb (u - m) (by omega) (by omega)
    have h6 := hd (u - m) (by omega) (by omega)
    have h7 := R.lt (u - m)
    have h8 := R.add m (u - m)
    rw [show m + (u - m) = u by omega] at h8
    have h9 := R.lt m
    constructor
    · rcases h8 with h8 | h8 <;> omega
    · intro h10; rcases h8 with h8 | h8 <;> omega
  have hleft : ∀ m e, 1 ≤ m → m < v → f m + e = q → b < e ∧ (e < a + b → False) := by
    intro m e h1 h2 he
    have h3 := hminb m h1 (by omega)
    have h4 := hmina (v - m) (by omega) (by omega)
    have h6 := hd (v - m) (by omega) (by omega)
    have h7 := R.lt (v - m)
    have h8 := R.add m (v - m)
    rw [show m + (v - m) = v by omega] at h8
    have h9 := R.lt m
    constructor
    · rcases h8 with h8 | h8 <;> omega
    · intro h10; rcases h8 with h8 | h8 <;> omega
  refine ⟨a, b, by omega, by omega, fun i hi => ?_⟩
  have li := R.lt i
  -- what a point between x and x + d says of the index
  have key : ∀ e k, 0 < e → e < a + b → k < n → (f k = f i + e ∨ f k + q = f i + e) → (i < k ∧ f (k - i) = e) ∨ (k < i ∧ f (i - k) + e = q) := by
    intro e k h0 h1 hk he
    have lk := R.lt k
    rcases Nat.lt_trichotomy i k with c | c | c
    · left
      refine ⟨c, ?_⟩
      have h8 := R.add i (k - i)
      rw [show i + (k - i) = k by omega] at h8
      have h9 := R.lt (k - i)
      rcases h8 with h8 | h8 <;> rcases he with he | he <;> omega
    · subst c; omega
    · right
      refine ⟨c, ?_⟩
      have h8 := R.add k (i - k)
      rw [show k + (i - k) = i by omega] at h8
      have h9 := R.lt (i - k)
      have h10 := hd (i - k) (by omega) (by omega)
      rcases h8 with h8 | h8 <;> rcases he with he | he <;> omega
  rcases Nat.lt_or_ge (i + u) n with c1 | c1
  · -- distance a
    left
    refine ⟨by omega, ⟨i + u, c1, ?_⟩, fun e h0 h1 ⟨k, hk, he⟩ => ?_⟩
    · rcases R.add i u with h | h <;> omega
    · rcases key e k h0 (by omega) hk he with ⟨c, h⟩ | ⟨c, h⟩
      · have := hmina (k - i) (by omega) (by omega); omega
      · exact (hleft (i - k) e (by omega) (by omega) h).2 (by omega)
  · rcases Nat.lt_or_ge i v with c2 | c2
    · right; right
      refine ⟨by omega, ⟨i + u - v, by omega, ?_⟩, fun e h0 h1 ⟨k, hk, he⟩ => ?_⟩
      · have h1 := R.add (i + u - v) v
        rw [show i + u - v + v = i + u by omega] at h1
        have h2 := R.add i u
        have h3 := R.lt (i + u - v)
        have h4 := R.lt (i + u)
        rcases h1 with h1 | h1 <;> rcases h2 with h2 | h2 <;> omega
      · rcases key e k h0 h1 hk he with ⟨c, h⟩ | ⟨c, h⟩
        · exact (hright (k - i) e (by omega) (by omega) h).2 h1
        · exact (hleft (i - k) e (by omega) (by omega) h).2 h1
    · right; left
      refine ⟨by omega, ⟨i - v, by omega, ?_⟩, fun e h0 h1 ⟨k, hk, he⟩ => ?_⟩
      · have h1 := R.add (i - v) v
        rw [show i - v + v = i by omega] at h1
        have h3 := R.lt (i - v)
        rcases h1 with h1 | h1 <;> omega
      · rcases key e k h0 (by omega) hk he with ⟨c, h⟩ | ⟨c, h⟩
        · exact (hright (k - i) e (by omega) (by omega) h).2 (by omega)
        · have := hminb (i - k) (by omega) (by omega); omega
/-- some point comes twice: one distance -/
theorem gaps_near {f : Nat → Nat} {q n m : Nat} (R : Rot f q) (h1 : 1 ≤ m) (hm : m < n) (h0 : f m = 0) {d : Nat} (hd : IsGap f q n (f 0) d) : ∀ i, i < n → IsGap f q n (f i) d := by
  have per : ∀ i, f (i + m) = f i := fun i => by have := R.lt (i + m); have := R.lt i; rcases R.add i m with e | e <;> omega
  have up : ∀ k, ∃ k', k' < n ∧ f k' = f k := by
    intro k
    induction k using Nat.strongRecOn with
    | ind k ih =>
      rcases Nat.lt_or_ge k n with h | h
      · exact ⟨k, h, rfl⟩
      · obtain ⟨k', h2, h3⟩ := ih (k - m) (by omega)
        have := per (k - m)
        rw [show k - m + m = k by omega] at this
        exact ⟨k', h2, by rw [h3, this]⟩
  have perK : ∀ j, f (j * m) = 0 := by
    intro j
    induction j with
    | zero => rw [Nat.zero_mul]; exact R.zero
    | succ j ih => rw [Nat.succ_mul, per]; exact ih
  have z0 := R.zero
  have inS : ∀ i y, y ≤ q → (InS f q n (f 0 + y) ↔ InS f q n (f i + y)) := by
    intro i y hy
    have li := R.lt i
    constructor
    · rintro ⟨k, hk, he⟩
      rcases Nat.lt_or_ge y q with c | c
      · obtain ⟨k', hk', e'⟩ := up (i + k)
        have lk := R.lt k
        refine ⟨k', hk', ?_⟩
        rcases R.add i k with e | e <;> rcases he with he | he <;> omega
      · obtain ⟨k', hk', e'⟩ := up i
        exact ⟨k', hk', .inr (by omega)⟩
    · rintro ⟨k, hk, he⟩
      obtain ⟨g, hg⟩ : ∃ g, g = i * (m - 1) := ⟨_, rfl⟩
      have hg1 : i + g = i * m := by
        obtain ⟨m', rfl⟩ : ∃ m', m = m' + 1 := ⟨m - 1, by omega⟩
        rw [hg, Nat.add_sub_cancel, Nat.mul_succ]; omega
      have hg2 := perK i
      rw [← hg1] at hg2
      have lg := R.lt g
      obtain ⟨k', hk', e'⟩ := up (k + g)
      have lk := R.lt k
      have lkg := R.lt (k + g)
      refine ⟨k', hk', ?_⟩
      rcases R.add i g with e | e <;> rcases R.add k g with e2 | e2 <;> rcases he with he | he <;> omega
  have hdq : d ≤ q := by
    rcases Nat.lt_or_ge q d with c | c
    · have := R.lt 0
      exact absurd (show InS f q n (f 0 + q) from ⟨0, by omega, .inr (by omega)⟩) (hd.2.2 q (by omega) c)
    · exact c
  intro i hi
  exact ⟨hd.1, (inS i d hdq).1 hd.2.1, fun e a b h => hd.2.2 e a b ((inS i e (by omega)).2 h)⟩
theorem gap_ex {f : Nat → Nat} {q n : Nat} (R : Rot f q) (hn : 1 ≤ n) : ∃ d, IsGap f q n (f 0) d := by
  have h0 := R.lt 0
  obtain ⟨d, ⟨h1, h2⟩, _, h3⟩ := least_of (P := fun d => 1 ≤ d ∧ InS f q n (f 0 + d)) (n := q) ⟨by omega, 0, by omega, .inr (by omega)⟩
  exact ⟨d, h1, h2, fun e a b h => h3 e b ⟨by omega, h⟩⟩
/-- at most three distances -/
theorem three_gaps {f : Nat → Nat} {q n : Nat} (R : Rot f q) (hn : 1 ≤ n) : ∃ a b, 1 ≤ a ∧ 1 ≤ b ∧ ∀ i d, i < n → IsGap f q n (f i) d → d = a ∨ d = b ∨ d = a + b := by
  rcases Classical.em (∃ m, 1 ≤ m ∧ m < n ∧ f m = 0) with ⟨m, h1, hm, h0⟩ | hno
  · obtain ⟨d, hd⟩ := gap_ex R hn
    exact ⟨d, d, hd.1, hd.1, fun i d' hi h => .inl (gap_uniq h (gaps_near R h1 hm h0 hd i hi))⟩
  · rcases Nat.lt_or_ge 1 n with c | c
    · obtain ⟨a, b, h1, h2, h3⟩ := gaps_far R c (fun m a b h => hno ⟨m, a, b, h⟩)
      refine ⟨a, b, h1, h2, fun i d hi h => ?_⟩
      rcases h3 i hi with h' | h' | h'
      · exact .inl (gap_uniq h h')
      · exact .inr (.inl (gap_uniq h h'))
      · exact .inr (.inr (gap_uniq h h'))
    · obtain ⟨d, hd⟩ := gap_ex R hn
      refine ⟨d, d, hd.1, hd.1, fun i d' hi h => .inl ?_⟩
      rw [show i = 0 by omega] at h
      exact gap_uniq h hd

/-! coming back to an arc -/
def IsRet (f : Nat → Nat) (q lo hi y i : Nat) : Prop := 1 ≤ i ∧ ((lo ≤ y + f i ∧ y + f i ≤ hi) ∨ (lo + q ≤ y + f i ∧ y + f i ≤ hi + q))
theorem three_times {f : Nat → Nat} {q lo hi : Nat} (R : Rot f q) (hlh : lo ≤ hi) (hhq : hi < q) (hq : ∃ i, 1 ≤ i ∧ f i = 0) :
    ∃ a b, ∀ y i, lo ≤ y → y ≤ hi → IsRet f q lo hi y i → (∀ j, j < i → ¬ IsRet f q lo hi y j) → i = a ∨ i = b ∨ i = a + b := by
  obtain ⟨i0, hi0, hz⟩ := hq
  obtain ⟨s, ⟨hs1, hs2⟩, _, hs3⟩ := least_of (P := fun i => 1 ≤ i ∧ f i ≤ hi - lo) (n := i0) ⟨hi0, by omega⟩
  obtain ⟨t, ⟨ht1, ht2⟩, _, ht3⟩ := least_of (P := fun i => 1 ≤ i ∧ (f i = 0 ∨ q ≤ f i + (hi - lo))) (n := i0) ⟨hi0, .inl hz⟩
  refine ⟨s, t, fun y i h1 h2 hret hmin => ?_⟩
  have lF := R.lt i
  have ls := R.lt s
  have lt := R.lt t
  have hi1 := hret.1
  have both : s < i → t < i → i ≥ s + t → i = s + t := by
    intro c1 c2 c3
    rcases Nat.lt_or_ge (s + t) i with c | c
    · exfalso
      have n1 := hmin s c1
      have n2 := hmin t c2
      have n3 := hmin (s + t) c
      have l3 := R.lt (s + t)
      unfold IsRet at n1 n2 n3
      rcases R.add s t with e | e <;> rcases ht2 with ht2 | ht2 <;> omega
    · omega
  rcases hret.2 with hr | hr
  · -- a right shift
    have e1 : s ≤ i := by
      rcases Nat.lt_or_ge i s with c | c
      · exact absurd ⟨hi1, by omega⟩ (hs3 i c)
      · exact c
    rcases Nat.eq_or_lt_of_le e1 with e | c1
    · exact .inl e.symm
    · have n1 := hmin s c1
      unfold IsRet at n1
      have hA := R.add s (i - s)
      rw [show s + (i - s) = i by omega] at hA
      have lm := R.lt (i - s)
      have e2 : t ≤ i - s := by
        rcases Nat.lt_or_ge (i - s) t with c | c
        · refine absurd ⟨by omega, ?_⟩ (ht3 (i - s) c)
          rcases hA with hA | hA <;> omega
        · exact c
      exact .inr (.inr (both c1 (by omega) (by omega)))
  · have e1 : t ≤ i := by
      rcases Nat.lt_or_ge i t with c | c
      · exact absurd ⟨hi1, by omega⟩ (ht3 i c)
      · exact c
    rcases Nat.eq_or_lt_of_le e1 with e | c1
    · exact .inr (.inl e.symm)
    · have n1 := hmin t c1
      unfold IsRet at n1
      have hA := R.add t (i - t)
      rw [show t + (i - t) = i by omega] at hA
      have lm := R.lt (i - t)
      have e2 : s ≤ i - t := by
        rcases Nat.lt_or_ge (i - t) s with c | c
        · refine absurd ⟨by omega, ?_⟩ (hs3 (i - t) c)
          rcases hA with hA | hA <;> rcases ht2 with ht2 | ht2 <;> omega
        · exact c
      exact .inr (.inr (both (by omega) c1 (by omega)))

/-- an ascending row of numbers among a, b, a + b -/
theorem asc_three {l : List Int} {a b : Int} (h : Asc l) (ha : 1 ≤ a) (hb : 1 ≤ b) (hm : ∀ x ∈ l, x = a ∨ x = b ∨ x = a + b) : l.length ≤ 3 ∧ (l.length = 3 → l.getD 2 0 = l.getD 0 0 + l.getD 1 0) := by
  match l with
  | [] => exact ⟨by simp, fun h => by simp at h⟩
  | [x] => exact ⟨by simp, fun h => by simp at h⟩
  | [x, y] => exact ⟨by simp, fun h => by simp at h⟩
  | [x, y, z] =>
    have h1 := hm x (by simp)
    have h2 := hm y (by simp)
    have h3 := hm z (by simp)
    unfold Asc at h
    simp only [List.pairwise_cons, List.mem_cons, List.not_mem_nil, or_false, forall_eq_or_imp, forall_eq] at h
    refine ⟨by simp, fun _ => ?_⟩
    show z = x + y
    omega
  | x :: y :: z :: u :: r =>
    exfalso
    have h1 := hm x (by simp)
    have h2 := hm y (by simp)
    have h3 := hm z (by simp)
    have h4 := hm u (by simp)
    unfold Asc at h
    have p1 := List.pairwise_cons.1 h
    have p2 := List.pairwise_cons.1 p1.2
    have p3 := List.pairwise_cons.1 p2.2
    have q1 := p1.1 y (by simp)
    have q2 := p2.1 z (by simp)
    have q3 := p3.1 u (by simp)
    omega
/-- an ascending row of numbers among three -/
theorem asc_three' {l : List Int} {a b c : Int} (h : Asc l) (hm : ∀ x ∈ l, x = a ∨ x = b ∨ x = c) : l.length ≤ 3 := by
  match l with
  | [] => simp
  | [x] => simp
  | [x, y] => simp
  | [x, y, z] => simp
  | x :: y :: z :: u :: r =>
    exfalso
    have h1 := hm x (by simp)
    have h2 := hm y (by simp)
    have h3 := hm z (by simp)
    have h4 := hm u (by simp)
    unfold Asc at h
    have p1 := List.pairwise_cons.1 h
    have p2 := List.pairwise_cons.1 p1.2
    have p3 := List.pairwise_cons.1 p2.2
    have q1 := p1.1 y (by simp)
    have q2 := p2.1 z (by simp)
    have q3 := p3.1 u (by simp)
    omega
end Go.Proofs.Yticbdpkmpnechaa
