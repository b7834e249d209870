/- Contracts of l17Words and MakeAll of the reference: all words of at most n of the first k letters, the short ones first; an append that keeps what could be read of the row before. Conditions: k ≤ 3, n ≤ 4. -/
import Derived.Test.YtlmciomoimfajaaM2
import Derived.Test.YtlmciomoimfajaaC4
import Derived.Test.YtlmciomoimfajaaS0
namespace Go.Proofs.Ytlmciomoimfajaa
open Go.RowKit
set_option linter.unusedVariables false

theorem append_keep {P : Program} {w : World} {t ty e : TypeId} {i : TypeInfo} {z : Value} {bytes : Nat} (ht : P.underlying t = some (.slice e)) (hi : P.info? e = some i) (hz : i.zero = some z) (hs : i.size = 1) (hby : i.bytes = bytes)
    {base : Nat} {v : Value} {n : Nat} {xs : List Value} (hown : w.ownsRow base e 1 v n xs) {y : Value} (hy : y.oneCell' = true) {a : Addr} (ha : w.cell? (a.add 0) = some y)
    (h63 : n + 1 ≤ maxLen) (hbytes : (n + 1) * bytes ≤ 140737488355328) {v' : Value} {w' : World} (hr : (Builtin.append_ #[t, t] ty #[v, .slice (some a) 1 1]).run P w = .ok v' w') :
    ∀ b j x, j < n → w.cell? ⟨b, j, none⟩ = some x → w'.cell? ⟨b, j, none⟩ = some x := by
  subst hby
  have hsmall : n + 1 ≤ 9223372036854775807 := by simp only [maxLen] at h63; omega
  have hnews : ∀ j u, ([y] : List Value)[j]? = some u → w.cell? (a.add j) = some u := fun j u hj => by
    cases j with
    | zero => rw [← Option.some.inj hj]; exact ha
    | succ j => simp at hj
  have h1 : ∀ u ∈ ([y] : List Value), u.oneCell' = true := fun u hu => by rw [List.mem_singleton.1 hu]; exact hy
  intro b j x hj hx
  have hbl : b < w.heap.size := World.block_lt_of_cell? w ⟨b, j, none⟩ hx
  have old : ∀ o : Obj, (w.drew.alloc o).cell? ⟨b, j, none⟩ = some x := fun o => by
    rw [← hx]; unfold World.cell?
    rw [Below.heap_alloc w.drew o b hbl]; rfl
  rcases hown.2 with ⟨rfl, rfl⟩ | ⟨g, cap, cur, rfl, hbg, hg, hnc, hcm, hcs, htake⟩
  · omega
  · by_cases hroom : n + 1 ≤ cap
    · have hfit : n * i.size + ([y] : List Value).length ≤ cur.size := by rw [hs, hcs]; simp; omega
      have hr2 := run_append_room (P := P) w t ty e i ht hi g n cap cur hg a 1 1 [y] (by simp [hs]) hnews h1 hroom hfit
      rw [hr] at hr2
      have hw := (Result.ok.inj hr2).2
      subst hw
      by_cases hb : b = g
      · subst hb
        rw [cell_setRow_same w b j cur _ e _ hg]
        have hx2 : cur[j]? = some x := by rw [← hx]; simp [World.cell?, hg]
        rw [hs, Nat.mul_one, ← Array.getElem?_toList] at *
        simp only [List.append_assoc]
        rw [List.getElem?_append_left (by rw [List.length_take, Array.length_toList]; omega), List.getElem?_take, if_pos hj]
        exact hx2
      · rw [cell_setRow_other w g _ _ hb]; exact hx
    · have holds : ∀ j u, xs[j]? = some u → w.cell? ((⟨g, 0, none⟩ : Addr).add j) = some u := hown.cells (g := g) rfl
      have hr2 := run_append_grow (P := P) w t ty e i z ht hi hz ⟨g, 0, none⟩ n cap xs (by rw [hown.1, hs]) holds a 1 1 [y] (by simp [hs]) hnews (by omega) (by omega) (growslice_fits (by omega) hbytes)
      rw [hr] at hr2
      have hw := (Result.ok.inj hr2).2
      subst hw
      exact old _

/-- 'out = append(out, y)' at strings; what could be read below the row's length can be read behind it -/
theorem appSK {w0 : World} {ops : Array Oper} {rest : List Oper} {o : Oper} {a : Act} {Q : Exit → Act → World → Prop} (hgd : o.guard = none) (s x : Operand)
    (ho : o.op = .call { callee := .builtin .append, args := #[s, x], argTypes := #[43, 43] })
    (base : Nat) (v : Value) (l : List ByteArray) (hs : a.eval s = v) (hown : OwnS w0 base v l) (y : ByteArray)
    (hx : a.eval x = .slice (some ⟨w0.heap.size, 0, none⟩) 1 1) (hlen : l.length ≤ 1099511627776) (hbase : base ≤ w0.heap.size)
    (h : ∀ v' w', OwnS w' base v' (l ++ [y]) → w0.grownBy w' v.ownBlock → (∀ b j x, j < l.length → w0.cell? ⟨b, j, none⟩ = some x → w'.cell? ⟨b, j, none⟩ = some x) → wpList Try.prog ops Q rest (a.put o.dst v') w') :
    wpList Try.prog ops Q (o :: rest) a (w0.alloc (.cells #[.string y] 9)) := by
  obtain ⟨i, hi, hz, h1, h2⟩ := info_parts info_str
  have hown2 : (w0.alloc (.cells #[.string y] 9)).ownsRow base 9 1 v l.length (sv l) := World.ownsRow.alloc hown _
  have hcell := one_new w0 (.string y) 9 0 (.string y) rfl
  obtain ⟨v', w', hr, g1, g2, _⟩ := run_append_own (P := Try.prog) (w0.alloc (.cells #[.string y] 9)) base 43 o.type 9 i (.string ByteArray.empty) 1 16 Try.underlying43 hi hz h1 h2 rfl (by decide) v l.length (sv l) hown2 ⟨w0.heap.size, 0, none⟩ 1 1 [.string y] (by simp) (one_new w0 (.string y) 9) (fun u hu => by simp at hu; subst hu; rfl) (by unfold maxLen; omega) (by omega) (by simp; omega)
  have hk := append_keep (P := Try.prog) (ty := o.type) Try.underlying43 hi hz h1 h2 hown2 (y := .string y) rfl (a := ⟨w0.heap.size, 0, none⟩) hcell (by unfold maxLen; omega) (by omega) hr
  have e : sv l ++ [.string y] = sv (l ++ [y]) := by simp [sv]
  refine wpList_plain hgd fun K hK => ?_
  unfold Oper.wp execOp
  simp only [ho, resolve, invoke, builtin, Sem.run_bind, Sem.run_pure, Result.andThen_ok, List.map_toArray, List.map_cons, List.map_nil, hs, hx, hr]
  refine hK _ _ (h v' w' ?_ (grown_alloc g2) fun b j x hj hc => hk b j x hj ?_)
  · unfold OwnS; rw [← e]; simpa using g1
  · have hbl := World.block_lt_of_cell? w0 ⟨b, j, none⟩ hc
    rw [← hc]; unfold World.cell?
    rw [Below.heap_alloc w0 _ b hbl]

theorem own_shapeQ {w : World} {B : Nat} {v : Value} {l : List ByteArray} (h : OwnS w B v l) (h0 : 1 ≤ l.length) : ∃ g c, v = .slice (some ⟨g, 0, none⟩) l.length c ∧ l.length ≤ c := by
  rcases h.2 with ⟨_, h1⟩ | ⟨g, cap, cur, hv, _, _, hc, _⟩
  · rw [h1] at h0; omega
  · exact ⟨g, cap, hv, hc⟩
/-! ### plain -/
def kids (k : Nat) (w : ByteArray) : List ByteArray := (List.range k).map (snoc w)
def lev (k : Nat) : Nat → List ByteArray
  | 0 => [⟨#[]⟩]
  | i + 1 => (lev k i).flatMap (kids k)
def allTo (k : Nat) : Nat → List ByteArray
  | 0 => lev k 0
  | i + 1 => allTo k i ++ lev k (i + 1)
theorem kids_len (k : Nat) (w : ByteArray) : (kids k w).length = k := by simp [kids]
theorem flat_len (k : Nat) (l : List ByteArray) : (l.flatMap (kids k)).length = l.length * k := by
  induction l with
  | nil => simp
  | cons x l ih => rw [List.flatMap_cons, List.length_append, ih, kids_len, List.length_cons, Nat.succ_mul]; omega
theorem lev_len {k : Nat} (hk : k ≤ 3) : ∀ i, (lev k i).length ≤ 3 ^ i
  | 0 => by simp [lev]
  | i + 1 => by
    rw [lev, flat_len, Nat.pow_succ]
    exact Nat.mul_le_mul (lev_len hk i) hk
theorem lev_pos {k : Nat} (hk : 1 ≤ k) : ∀ i, 1 ≤ (lev k i).length
  | 0 => by simp [lev]
  | i + 1 => by
    rw [lev, flat_len]
    exact Nat.mul_le_mul (lev_pos hk i) hk
theorem lev_small {k i : Nat} (hk : k ≤ 3) (hi : i ≤ 4) : (lev k i).length ≤ 81 :=
  Nat.le_trans (lev_len hk i) (Nat.le_trans (Nat.pow_le_pow_right (by omega) hi) (by decide))
theorem lev_size {k : Nat} : ∀ i, ∀ x ∈ lev k i, x.size = i
  | 0, x, h => by simp [lev] at h; subst h; rfl
  | i + 1, x, h => by
    rw [lev, List.mem_flatMap] at h
    obtain ⟨y, hy, hx⟩ := h
    obtain ⟨j, _, rfl⟩ := List.mem_map.1 hx
    rw [snoc_size, lev_size i y hy]
theorem allTo_small {k : Nat} (hk : k ≤ 3) : ∀ i, i ≤ 4 → (allTo k i).length ≤ 81 * (i + 1) ∧ (lev k i).length ≤ (allTo k i).length
  | 0, _ => by simp [allTo, lev]
  | i + 1, h => by
    have h1 := allTo_small hk i (by omega)
    have h2 := lev_small (i := i + 1) hk h
    rw [allTo, List.length_append]; omega
theorem allTo_at {k : Nat} : ∀ i t, t < (lev k i).length → (allTo k i)[(allTo k i).length - (lev k i).length + t]? = (lev k i)[t]?
  | 0, t, h => by simp [allTo]
  | i + 1, t, h => by
    rw [allTo, List.length_append, Nat.add_sub_cancel, List.getElem?_append_right (by omega), Nat.add_sub_cancel_left]
theorem mid_step {k : Nat} {L : List ByteArray} {m : Nat} {x : ByteArray} (h : L[m]? = some x) : (L.take (m + 1)).flatMap (kids k) = (L.take m).flatMap (kids k) ++ kids k x := by
  have hm := (List.getElem?_eq_some_iff.1 h).1
  rw [List.take_succ_eq_append_getElem hm, (List.getElem?_eq_some_iff.1 h).2, List.flatMap_append]; simp
theorem kid_step (x : ByteArray) (j : Nat) : (List.range (j + 1)).map (snoc x) = (List.range j).map (snoc x) ++ [snoc x j] := by simp [List.range_succ]

set_option maxRecDepth 20000 in
set_option maxHeartbeats 4000000 in
theorem l17Words_c (k n : Nat) (w : World) (hk1 : 1 ≤ k) (hk : k ≤ 3) (hn : n ≤ 4) :
    Calls Try.prog 97 #[.int .i64 (k : Int), .int .i64 (n : Int)] w (RetS (allTo k n) w) := by
  have hst : Hid (OwnS (w.alloc (.cells #[.string ⟨#[]⟩] 9)) w.heap.size (.slice (some ⟨w.heap.size, 0, none⟩) 1 1) (allTo k 0)) :=
    ⟨rfl, .inr ⟨w.heap.size, 1, _, rfl, Nat.le_refl _, heap_alloc_new w _, Nat.le_refl _, by unfold maxLen; omega, rfl, rfl⟩⟩
  go_enter Try.func97, Try.ntmps97
  go_wp2_with fail
  go_loopw [5, 6, 7] (fun v f z wr => ∃ i fr : Nat, z = .int .i64 (i : Int) ∧ f = .int .i64 (fr : Int) ∧ i ≤ n ∧ Hid (fr = (allTo k i).length - (lev k i).length) ∧ Hid (OwnS wr w.heap.size v (allTo k i)) ∧ Below w.heap.size w wr) (fun _ _ z _ => n - (intOf z).toNat)
  case atStart => exact ⟨0, 0, rfl, rfl, by omega, by simp [Hid, allTo], hst, (Below.refl _ _).alloc (Nat.le_refl _) _⟩
  case round =>
    obtain ⟨i, fr, rfl, rfl, hi, hfr, hown, hb⟩ := hrel
    by_cases hlt : i < n
    · have hin : (i : Int) < (n : Int) := by omega
      have hsm := allTo_small hk i (by omega)
      have hps := lev_pos hk1 i
      obtain ⟨gg, cc, hv, hcc⟩ := own_shapeQ hown.out (by omega)
      subst hv
      have hrd : Hid (∀ t x, (lev k i)[t]? = some x → wr.cell? ⟨gg, fr + t, none⟩ = some (.string x)) := fun t x hx => by
        have ht := (List.getElem?_eq_some_iff.1 hx).1
        rcases hown.out.rd with ⟨h, _⟩ | ⟨g, c, h, _, hc⟩
        · cases h
        · cases h
          refine hc (fr + t) x ?_
          rw [hfr.out, allTo_at i t ht]; exact hx
      have hls := lev_small (i := i) hk (by omega)
      obtain ⟨E, hE⟩ : ∃ E, E = (allTo k i).length := ⟨_, rfl⟩
      obtain ⟨M, hM⟩ : ∃ M, M = (lev k i).length := ⟨_, rfl⟩
      have hfe : fr + M = E := by rw [hfr.out, hE, hM]; omega
      have HE := Lib.hid hE
      have HM := Lib.hid hM
      rw [← hE] at hcc hsm hown ⊢
      rw [← hM] at hsm hps hls
      have hEb : E ≤ 405 := by omega
      have s1 : (fr : Int) ≤ (E : Int) := by omega
      have s2 : (E : Int) - (fr : Int) = (M : Int) := by omega
      have s3 : fr ≤ E := by omega
      have s4 : E - fr = M := by omega
      have s5 : fr < cc := by omega
      clear hE hM
      have hst2 : Hid (allTo k i = allTo k i ++ ((lev k i).take 0).flatMap (kids k)) := by simp [Hid]
      have HLT : Hid (allTo k i ++ ((lev k i).take M).flatMap (kids k) = allTo k (i + 1)) := by unfold Hid; rw [HM.out, List.take_length]; rfl
      have hfrn : Hid (E = (allTo k (i + 1)).length - (lev k (i + 1)).length) := by unfold Hid; rw [HE.out, allTo, List.length_append]; omega
      clear hfr
      go_wp2_with fail
      go_loopw [5, 25] (fun v z wm => ∃ (m : Nat) (acc : List ByteArray), z = .int .i64 (m : Int) ∧ m ≤ M ∧ E ≤ acc.length ∧ acc.length ≤ E + 3 * m ∧ Hid (acc = allTo k i ++ ((lev k i).take m).flatMap (kids k)) ∧ Hid (OwnS wm w.heap.size v acc) ∧ Hid (∀ t x, (lev k i)[t]? = some x → wm.cell? ⟨gg, fr + t, none⟩ = some (.string x)) ∧ Below w.heap.size w wm) (fun _ z _ => M - (intOf z).toNat)
      case atStart => exact ⟨0, _, rfl, by omega, by rw [← HE.out]; exact Nat.le_refl _, by rw [← HE.out]; omega, hst2, hown, hrd, hb⟩
      case round =>
        obtain ⟨m, acc, rfl, hm, ha1, ha2, hacc, hownm, hrdm, hbm⟩ := hrel
        have hszm := hbm.size
        by_cases hmM : m < M
        · obtain ⟨x, hx⟩ : ∃ x, (lev k i)[m]? = some x := ⟨_, List.getElem?_eq_getElem (by rw [← HM.out]; exact hmM)⟩
          have hc := hrdm.out m x hx
          have HX := Lib.hid hx
          have hxz : x.size ≤ 4 := by have := lev_size i x (List.mem_of_getElem? hx); omega
          have b1 : (m : Int) < (M : Int) := by omega
          have hst3 : Hid (acc = acc ++ (List.range 0).map (snoc x)) := by simp [Hid]
          clear hx
          go_wp2_with fail
          go_loopw [5, 11] (fun v z wj => ∃ (j : Nat) (acc2 : List ByteArray), z = .int .i64 (j : Int) ∧ j ≤ k ∧ E ≤ acc2.length ∧ acc2.length ≤ E + 3 * m + j ∧ Hid (acc2 = acc ++ (List.range j).map (snoc x)) ∧ Hid (OwnS wj w.heap.size v acc2) ∧ Hid (∀ t x, (lev k i)[t]? = some x → wj.cell? ⟨gg, fr + t, none⟩ = some (.string x)) ∧ Below w.heap.size w wj) (fun _ z _ => k - (intOf z).toNat)
          case atStart => exact ⟨0, acc, rfl, by omega, ha1, by omega, hst3, hownm, hrdm, hbm⟩
          case round =>
            obtain ⟨j, acc2, rfl, hj, h21, h22, hacc2, hown2, hrd2, hb2⟩ := hrel
            have hsz2 := hb2.size
            by_cases hjk : j < k
            · have hle := letter_abcd j (by omega)
              have hsn := snoc_eq x j
              have c0 : (j : Int) < (k : Int) := by omega
              have c1 : (j : Int) + 1 ≤ 4 := by omega
              have c2 : (j : Int) ≤ (j : Int) + 1 := by omega
              have hs1 : (St [letU j]).size = 1 := rfl
              go_wp2_with (at_builtin; refine appSK rfl _ _ rfl w.heap.size _ acc2 rfl (by exact hown2.out) (snoc x j) rfl (by omega) (by exact hb2.size) ?_; intro v' w' hown' hg' hkp)
              go_roundw
              case rel => exact ⟨j + 1, acc2 ++ [snoc x j], by go_num, by omega, by simp; omega, by simp; omega, by rw [hacc2.out, kid_step, List.append_assoc]; rfl, hown', (fun t y hy => hkp gg (fr + t) _ (by have := (List.getElem?_eq_some_iff.1 hy).1; rw [← HM.out] at this; omega) (hrd2.out t y hy)), below_app hb2 hown2.out hg' hb2.size⟩
              case measure => simp [intOf] <;> omega
            · obtain rfl : j = k := by omega
              have hnx : Hid (acc2 = allTo j i ++ ((lev j i).take (m + 1)).flatMap (kids j)) := by unfold Hid; rw [hacc2.out, hacc.out, mid_step HX.out, List.append_assoc]; rfl
              go_wp2_with fail
              go_roundw
              case rel => exact ⟨m + 1, acc2, by go_num, by omega, h21, by omega, hnx, hown2, hrd2, hb2⟩
              case measure => simp [intOf] <;> omega
        · obtain rfl : m = M := by omega
          have hnx : Hid (acc = allTo k (i + 1)) := by unfold Hid; rw [hacc.out]; exact HLT.out
          go_wp2_with fail
          go_roundw
          case rel => exact ⟨i + 1, E, by go_num, rfl, by omega, hfrn, by rw [← hnx.out]; exact hownm, hbm⟩
          case measure => simp [intOf] <;> omega
    · obtain rfl : i = n := by omega
      go_wp2_with fail
      go_ret
      exact retS_mk hown.out rfl hb
theorem makeAll_c (k n : Nat) (w : World) (hk1 : 1 ≤ k) (hk : k ≤ 3) (hn : n ≤ 4) :
    Calls Try.prog 36 #[.int .i64 (k : Int), .int .i64 (n : Int)] w (RetS (allTo k n) w) := by
  have h1 := Lib.hid (l17Words_c k n w hk1 hk hn)
  go_enter Try.func36, Try.ntmps36
  go_wp2_with fail
  refine h1.out.mono ?_
  rintro e w' ⟨v, rfl, hown, hb⟩
  have HO := Lib.hid hown
  clear hown
  go_wp2_with fail
  go_ret
  exact ⟨v, rfl, HO.out, hb⟩
end Go.Proofs.Ytlmciomoimfajaa
