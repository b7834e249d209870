/- Plain lemmas: substitutions: words put through, fixed words, how many letters of each kind. No program in sight. -/
import Derived.Test.YtlmciomoimfajaaDoorC4
import Derived.Test.YtlmciomoimfajaaDoorB1
namespace Go.Proofs.YtlmciomoimfajaaDoor
set_option linter.unusedVariables false

/-- the image of a letter -/
def imL (L : List ByteArray) (c : UInt8) : List UInt8 := (L.getD (c.toNat - 97) ⟨#[]⟩).data.toList
def apL (L : List ByteArray) (l : List UInt8) : List UInt8 := l.flatMap (imL L)
/-- a letter that has an image -/
def inL (L : List ByteArray) (c : UInt8) : Prop := 97 ≤ c.toNat ∧ c.toNat < 97 + L.length
/-- a substitution -/
structure OkL (L : List ByteArray) : Prop where
  one : 1 ≤ L.length
  four : L.length ≤ 4
  sz : ∀ x ∈ L, 1 ≤ x.size ∧ x.size ≤ 8
  let_ : ∀ x ∈ L, ∀ c ∈ x.data.toList, inL L c
theorem inL_abcd {L : List ByteArray} (h : OkL L) {c : UInt8} (hc : inL L c) : abcd c = true := by
  have := h.four
  have h1 := hc.1
  have h2 := hc.2
  exact abcd_iff.2 (by omega)
theorem imL_at {L : List ByteArray} {c : UInt8} (hc : inL L c) : ∃ x, L[c.toNat - 97]? = some x ∧ x ∈ L ∧ imL L c = x.data.toList := by
  have h2 : c.toNat - 97 < L.length := by have := hc.2; have := hc.1; omega
  refine ⟨L[c.toNat - 97], List.getElem?_eq_getElem h2, List.getElem_mem _, ?_⟩
  unfold imL
  rw [List.getD_eq_getElem?_getD, List.getElem?_eq_getElem h2]; rfl
theorem imL_bd {L : List ByteArray} (h : OkL L) {c : UInt8} (hc : inL L c) : 1 ≤ (imL L c).length ∧ (imL L c).length ≤ 8 ∧ ∀ d ∈ imL L c, inL L d := by
  obtain ⟨x, _, hx, e⟩ := imL_at hc
  have h1 := h.sz x hx
  rw [e, ← size_len]
  exact ⟨h1.1, h1.2, h.let_ x hx⟩
theorem apL_nil (L : List ByteArray) : apL L [] = [] := rfl
theorem apL_cons (L : List ByteArray) (c : UInt8) (r : List UInt8) : apL L (c :: r) = imL L c ++ apL L r := List.flatMap_cons
theorem apL_app (L : List ByteArray) (a b : List UInt8) : apL L (a ++ b) = apL L a ++ apL L b := List.flatMap_append
theorem apL_snoc (L : List ByteArray) (a : List UInt8) (c : UInt8) : apL L (a ++ [c]) = apL L a ++ imL L c := by rw [apL_app, apL_cons, apL_nil, List.append_nil]
theorem apL_mono {L : List ByteArray} {a b : List UInt8} (h : a <+: b) : apL L a <+: apL L b := by
  obtain ⟨r, rfl⟩ := h
  rw [apL_app]; exact List.prefix_append _ _
theorem apL_in {L : List ByteArray} (h : OkL L) {l : List UInt8} (hl : ∀ c ∈ l, inL L c) : ∀ c ∈ apL L l, inL L c := by
  intro c hc
  obtain ⟨d, hd, hcd⟩ := List.mem_flatMap.1 hc
  exact (imL_bd h (hl d hd)).2.2 c hcd
theorem apL_len {L : List ByteArray} (h : OkL L) : ∀ {l : List UInt8}, (∀ c ∈ l, inL L c) → l.length ≤ (apL L l).length ∧ (apL L l).length ≤ 8 * l.length
  | [], _ => by simp [apL]
  | c :: r, hl => by
    have h1 := imL_bd h (hl c (by simp))
    have h2 := apL_len h (l := r) fun d hd => hl d (by simp [hd])
    rw [apL_cons, List.length_append, List.length_cons]; omega
/-- a is growing: its image begins with a and has two letters or more -/
structure GrL (L : List ByteArray) : Prop extends OkL L where
  grow : ∃ r, imL L 97 = 97 :: r ∧ 1 ≤ r.length
theorem in_a {L : List ByteArray} (h : OkL L) : inL L 97 := ⟨by decide, by have := h.one; show 97 < 97 + L.length; omega⟩
/-- a beginning of the fixed point of a -/
structure FixP (L : List ByteArray) (l : List UInt8) : Prop where
  pre : l <+: apL L l
  hd : ∀ c r, l = c :: r → c = 97
  let_ : ∀ c ∈ l, inL L c
theorem fix_nil (L : List ByteArray) : FixP L [] := ⟨List.nil_prefix, fun c r h => (by cases h), fun c h => (by simp at h)⟩
theorem fix_a {L : List ByteArray} (h : GrL L) : FixP L [97] := by
  obtain ⟨r, e, _⟩ := h.grow
  refine ⟨?_, fun c r h => (by cases h; rfl), fun c hc => (by rw [List.mem_singleton.1 hc]; exact in_a h.toOkL)⟩
  rw [apL_cons, apL_nil, List.append_nil, e]; exact ⟨r, rfl⟩
theorem fix_ap {L : List ByteArray} (h : GrL L) {l : List UInt8} (hf : FixP L l) : FixP L (apL L l) := by
  refine ⟨apL_mono hf.pre, fun c r e => ?_, apL_in h.toOkL hf.let_⟩
  cases l with
  | nil => rw [apL_nil] at e; cases e
  | cons d s =>
    obtain rfl := hf.hd d s rfl
    obtain ⟨t, e2, _⟩ := h.grow
    rw [apL_cons, e2] at e
    exact (List.cons.inj e).1.symm
theorem ap_more {L : List ByteArray} (h : GrL L) {l : List UInt8} (hf : FixP L l) (h1 : 1 ≤ l.length) : l.length + 1 ≤ (apL L l).length := by
  cases l with
  | nil => simp at h1
  | cons d s =>
    obtain rfl := hf.hd d s rfl
    obtain ⟨t, e2, h2⟩ := h.grow
    have h3 := (apL_len h.toOkL (l := s) fun c hc => hf.let_ c (by simp [hc])).1
    rw [apL_cons, e2, List.length_append, List.length_cons, List.length_cons]; omega
theorem fix_take {L : List ByteArray} (h : GrL L) {l : List UInt8} (hf : FixP L l) (n : Nat) : FixP L (l.take n) := by
  have hlet : ∀ c ∈ l.take n, inL L c := fun c hc => hf.let_ c (List.mem_of_mem_take hc)
  refine ⟨?_, fun c r e => ?_, hlet⟩
  · have h1 : l.take n <+: apL L l := (List.take_prefix _ _).trans hf.pre
    have h2 : apL L (l.take n) <+: apL L l := apL_mono (List.take_prefix _ _)
    exact List.prefix_of_prefix_length_le h1 h2 (apL_len h.toOkL hlet).1
  · obtain ⟨t, ht⟩ := List.take_prefix n l
    rw [e] at ht
    exact hf.hd c (r ++ t) ht.symm
theorem fix_uniq {L : List ByteArray} (h : GrL L) {a b : List UInt8} (ha : FixP L a) (hb : FixP L b) : ∀ n, n ≤ a.length → n ≤ b.length → a.take n = b.take n
  | 0, _, _ => by simp
  | 1, h1, h2 => by
    cases a with
    | nil => simp at h1
    | cons c r =>
      cases b with
      | nil => simp at h2
      | cons d s =>
        obtain rfl := ha.hd c r rfl
        obtain rfl := hb.hd d s rfl
        rfl
  | n + 2, h1, h2 => by
    have ih := fix_uniq h ha hb (n + 1) (by omega) (by omega)
    have key : ∀ x : List UInt8, FixP L x → n + 2 ≤ x.length → x.take (n + 2) = (apL L (x.take (n + 1))).take (n + 2) := by
      intro x hx hl
      have hl2 : (x.take (n + 1)).length = n + 1 := by rw [List.length_take]; omega
      have h3 : x.take (n + 2) <+: apL L x := (List.take_prefix _ _).trans hx.pre
      have h4 : apL L (x.take (n + 1)) <+: apL L x := apL_mono (List.take_prefix _ _)
      have h5 := ap_more h (fix_take h hx (n + 1)) (by omega)
      have h6 := List.prefix_of_prefix_length_le h3 h4 (by rw [List.length_take]; omega)
      have h7 := List.prefix_iff_eq_take.1 h6
      rw [List.length_take, Nat.min_eq_left hl] at h7
      exact h7
    rw [key a ha h1, key b hb h2, ih]
theorem fix_pre {L : List ByteArray} (h : GrL L) {a b : List UInt8} (ha : FixP L a) (hb : FixP L b) (hl : a.length ≤ b.length) : a <+: b := by
  have := fix_uniq h ha hb a.length (Nat.le_refl _) hl
  rw [List.take_length] at this
  rw [this]; exact List.take_prefix _ _
/-- a word put through n times -/
def itL (L : List ByteArray) (l : List UInt8) : Nat → List UInt8
  | 0 => l
  | n + 1 => apL L (itL L l n)
theorem itL_fix {L : List ByteArray} (h : GrL L) : ∀ n, FixP L (itL L [97] n) ∧ n + 1 ≤ (itL L [97] n).length
  | 0 => ⟨fix_a h, by simp [itL]⟩
  | n + 1 => by
    obtain ⟨h1, h2⟩ := itL_fix h n
    exact ⟨fix_ap h h1, by have := ap_more h h1 (by omega); show n + 1 + 1 ≤ (apL L (itL L [97] n)).length; omega⟩
theorem itL_len {L : List ByteArray} (h : GrL L) : ∀ n, (itL L [97] n).length ≤ 8 ^ n
  | 0 => by simp [itL]
  | n + 1 => by
    have h1 := itL_len h n
    have h2 := (apL_len h.toOkL (itL_fix h n).1.let_).2
    show (apL L (itL L [97] n)).length ≤ _
    rw [Nat.pow_succ]; omega
theorem itL_up {L : List ByteArray} (h : GrL L) (n : Nat) : (itL L [97] n).length ≤ (itL L [97] (n + 1)).length := (apL_len h.toOkL (itL_fix h n).1.let_).1
/-- the first n letters of the fixed point of a -/
def fxL (L : List ByteArray) (n : Nat) : List UInt8 := (itL L [97] n).take n
theorem fxL_fix {L : List ByteArray} (h : GrL L) (n : Nat) : FixP L (fxL L n) ∧ (fxL L n).length = n := by
  obtain ⟨h1, h2⟩ := itL_fix h n
  exact ⟨fix_take h h1 n, by unfold fxL; rw [List.length_take]; omega⟩
theorem fxL_is {L : List ByteArray} (h : GrL L) {l : List UInt8} (hf : FixP L l) {n : Nat} (hn : n ≤ l.length) : l.take n = fxL L n := by
  obtain ⟨h1, h2⟩ := fxL_fix h n
  have := fix_uniq h hf h1 n hn (by omega)
  rw [this, List.take_of_length_le (by omega)]
theorem fxL_take {L : List ByteArray} (h : GrL L) {n m : Nat} (hnm : n ≤ m) : (fxL L m).take n = fxL L n := by
  obtain ⟨h1, h2⟩ := fxL_fix h m
  exact fxL_is h h1 (by omega)
/-- what the program does: the images of the letters from the second on are put behind the image of a -/
structure FxI (L : List ByteArray) (out : List UInt8) (i : Nat) : Prop where
  eq : out = apL L (out.take i)
  i1 : 1 ≤ i
  lt : i < out.length
  fx : FixP L out
theorem fxI_start {L : List ByteArray} (h : GrL L) : FxI L (imL L 97) 1 := by
  obtain ⟨r, e, h1⟩ := h.grow
  have hlet := (imL_bd h.toOkL (in_a h.toOkL)).2.2
  have e2 : imL L 97 = apL L ((imL L 97).take 1) := by rw [e]; show _ = apL L [97]; rw [apL_cons, apL_nil, List.append_nil, e]
  refine ⟨e2, by omega, by rw [e, List.length_cons]; omega, ?_, fun c s hs => ?_, hlet⟩
  · conv => lhs; rw [e2]
    exact apL_mono (List.take_prefix _ _)
  · rw [e] at hs; exact (List.cons.inj hs).1.symm
theorem fxI_step {L : List ByteArray} (h : GrL L) {out : List UInt8} {i : Nat} (hI : FxI L out i) {c : UInt8} (hc : out[i]? = some c) : FxI L (out ++ imL L c) (i + 1) := by
  obtain ⟨h1, h2⟩ := List.getElem?_eq_some_iff.1 hc
  have hci : inL L c := hI.fx.let_ c (List.mem_of_getElem? hc)
  have hb := imL_bd h.toOkL hci
  have e : (out ++ imL L c).take (i + 1) = out.take i ++ [c] := by
    rw [List.take_append_of_le_length (by omega), List.take_succ_eq_append_getElem h1, h2]
  have e2 : out ++ imL L c = apL L ((out ++ imL L c).take (i + 1)) := by rw [e, apL_snoc, ← hI.eq]
  refine ⟨e2, by omega, by rw [List.length_append]; omega, ?_, fun d s hs => ?_, fun d hd => ?_⟩
  · conv => lhs; rw [e2]
    exact apL_mono (List.take_prefix _ _)
  · cases hO : out with
    | nil => rw [hO] at h1; simp at h1
    | cons x y =>
      rw [hO] at hs
      have := (List.cons.inj hs).1
      rw [← this]
      exact hI.fx.hd x y hO
  · rcases List.mem_append.1 hd with hd | hd
    · exact hI.fx.let_ d hd
    · exact hb.2.2 d hd
/-! how many letters of each kind -/
def ctL (l : List UInt8) (i : Nat) : Nat := l.count (letU i)
def sumTo (f : Nat → Nat) : Nat → Nat
  | 0 => 0
  | k + 1 => sumTo f k + f k
theorem sumTo_add (f g : Nat → Nat) : ∀ n, sumTo (fun k => f k + g k) n = sumTo f n + sumTo g n
  | 0 => rfl
  | n + 1 => by have := sumTo_add f g n; simp only [sumTo]; omega
theorem sumTo_congr {f g : Nat → Nat} : ∀ {n}, (∀ k, k < n → f k = g k) → sumTo f n = sumTo g n
  | 0, _ => rfl
  | n + 1, h => by simp only [sumTo]; rw [sumTo_congr (n := n) (fun k hk => h k (by omega)), h n (by omega)]
theorem sumTo_zero : ∀ n, sumTo (fun _ => 0) n = 0
  | 0 => rfl
  | n + 1 => by simp only [sumTo, sumTo_zero n]
theorem sumTo_one (f : Nat → Nat) (j : Nat) : ∀ n, j < n → sumTo (fun k => if k = j then f k else 0) n = f j
  | 0, h => by omega
  | n + 1, h => by
    simp only [sumTo]
    rcases Nat.lt_succ_iff_lt_or_eq.1 h with h | rfl
    · rw [sumTo_one f j n h, if_neg (by omega)]; omega
    · have : sumTo (fun k => if k = j then f k else 0) j = sumTo (fun _ => 0) j := sumTo_congr fun k hk => if_neg (by omega)
      rw [this, sumTo_zero, if_pos rfl]; omega
theorem letU_in {L : List ByteArray} (h : OkL L) {c : UInt8} (hc : inL L c) : c = letU (c.toNat - 97) := by
  have h1 := hc.1
  have h2 := hc.2
  have h4 := h.four
  have h3 : c.toNat = 97 ∨ c.toNat = 98 ∨ c.toNat = 99 ∨ c.toNat = 100 := by omega
  rcases h3 with e | e | e | e
  · rw [e]; exact UInt8.toNat_inj.1 e
  · rw [e]; exact UInt8.toNat_inj.1 e
  · rw [e]; exact UInt8.toNat_inj.1 e
  · rw [e]; exact UInt8.toNat_inj.1 e
theorem letU_inj {i j : Nat} (hi : i < 4) (hj : j < 4) (h : letU i = letU j) : i = j := by
  rcases (show i = 0 ∨ i = 1 ∨ i = 2 ∨ i = 3 by omega) with rfl | rfl | rfl | rfl <;> rcases (show j = 0 ∨ j = 1 ∨ j = 2 ∨ j = 3 by omega) with rfl | rfl | rfl | rfl <;> first | rfl | exact absurd h (by decide)
/-- the matrix: how often letter i stands in the image of letter k -/
def mtL (L : List ByteArray) (i k : Nat) : Nat := (imL L (letU k)).count (letU i)
theorem cnt_ap {L : List ByteArray} (h : OkL L) (i : Nat) : ∀ l : List UInt8, (∀ c ∈ l, inL L c) → ctL (apL L l) i = sumTo (fun k => mtL L i k * ctL l k) L.length
  | [], _ => by
    have : sumTo (fun k => mtL L i k * ctL [] k) L.length = sumTo (fun _ => 0) L.length := sumTo_congr fun k _ => by simp [ctL]
    rw [this, sumTo_zero]; simp [apL, ctL]
  | c :: r, hl => by
    have ih := cnt_ap h i r fun d hd => hl d (by simp [hd])
    have hc := hl c (by simp)
    have hcu := letU_in h hc
    have hj : c.toNat - 97 < L.length := by have := hc.1; have := hc.2; omega
    have h4 := h.four
    rw [apL_cons]
    show (imL L c ++ apL L r).count (letU i) = _
    rw [List.count_append]
    have e1 : sumTo (fun k => mtL L i k * ctL (c :: r) k) L.length = sumTo (fun k => (if k = c.toNat - 97 then mtL L i k else 0) + mtL L i k * ctL r k) L.length := by
      refine sumTo_congr fun k hk => ?_
      unfold ctL
      rw [List.count_cons]
      by_cases hk2 : k = c.toNat - 97
      · rw [if_pos hk2, if_pos (by rw [hk2, ← hcu]; simp), Nat.mul_add]; omega
      · rw [if_neg hk2, if_neg (by
          intro e
          rw [beq_iff_eq] at e
          rw [hcu] at e
          exact hk2 (letU_inj (by omega) (by omega) e.symm)), Nat.add_zero, Nat.zero_add]
    rw [e1, sumTo_add, sumTo_one _ _ _ hj]
    have e2 : (imL L c).count (letU i) = mtL L i (c.toNat - 97) := by unfold mtL; rw [← hcu]
    rw [e2]
    have : (apL L r).count (letU i) = ctL (apL L r) i := rfl
    rw [this, ih]
theorem cnt_sum {L : List ByteArray} (h : OkL L) : ∀ l : List UInt8, (∀ c ∈ l, inL L c) → sumTo (ctL l) L.length = l.length
  | [], _ => by
    have : sumTo (ctL []) L.length = sumTo (fun _ => 0) L.length := sumTo_congr fun k _ => by simp [ctL]
    rw [this, sumTo_zero]; rfl
  | c :: r, hl => by
    have ih := cnt_sum h r fun d hd => hl d (by simp [hd])
    have hc := hl c (by simp)
    have hcu := letU_in h hc
    have hj : c.toNat - 97 < L.length := by have := hc.1; have := hc.2; omega
    have h4 := h.four
    have e1 : sumTo (ctL (c :: r)) L.length = sumTo (fun k => (if k = c.toNat - 97 then 1 else 0) + ctL r k) L.length := by
      refine sumTo_congr fun k hk => ?_
      unfold ctL
      rw [List.count_cons]
      by_cases hk2 : k = c.toNat - 97
      · rw [if_pos hk2, if_pos (by rw [hk2, ← hcu]; simp)]; omega
      · rw [if_neg hk2, if_neg (by
          intro e
          rw [beq_iff_eq] at e
          rw [hcu] at e
          exact hk2 (letU_inj (by omega) (by omega) e.symm))]; omega
    rw [e1, sumTo_add, sumTo_one (fun _ => 1) _ _ hj]
    have : sumTo (fun k => ctL r k) L.length = sumTo (ctL r) L.length := rfl
    rw [this, ih, List.length_cons]; omega
theorem cnt_out {L : List ByteArray} (h : OkL L) {l : List UInt8} (hl : ∀ c ∈ l, inL L c) {i : Nat} (hi : L.length ≤ i) (hi4 : i < 4) : ctL l i = 0 := by
  unfold ctL
  rw [List.count_eq_zero]
  intro hm
  have hc := hl _ hm
  have := hc.2
  have e : (letU i).toNat = 97 + i := by
    rcases (show i = 0 ∨ i = 1 ∨ i = 2 ∨ i = 3 by omega) with rfl | rfl | rfl | rfl <;> rfl
  omega
end Go.Proofs.YtlmciomoimfajaaDoor
