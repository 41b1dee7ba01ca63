/- span.Many, part by part: words, and what trees tells. Plain. -/
import Derived.Test.YtnkmfnnkophccaaDoorPartM
import Derived.Test.YtnkmfnnkophccaaDoorSpreadLaw
import Derived.Test.YtnkmfnnkophccaaDoorNearGr
import Derived.Test.YtnkmfnnkophccaaDoorFullLaw
import Derived.Test.YtnkmfnnkophccaaDoorTreesB
namespace Go.Proofs.YtnkmfnnkophccaaDoor
open Go.RowKit Go.Shelf

theorem count_one {a b : Nat} : ∀ {es : List E}, (es.Pairwise fun f e => sameE e f = false) → es.countP (adjE a b) = if es.any (adjE a b) then 1 else 0
  | [], _ => rfl
  | f :: es, h => by
    obtain ⟨h1, h2⟩ := List.pairwise_cons.1 h
    rw [List.countP_cons, List.any_cons, count_one h2]
    cases hf : adjE a b f
    · rw [Bool.false_or]; rfl
    · have : es.any (adjE a b) = false := List.any_eq_false.2 fun e he hab => by
        have := h1 e he
        unfold adjE at hab hf
        unfold sameE at this
        simp at hab hf this
        omega
      rw [this]; rfl
theorem cntE_adj {N : Int} {es : List E} (h : OkL N es) (a b : Nat) : cntE es a b = if adj es a b = true then 1 else 0 := count_one h.two
section
variable {N : Nat} {es : List E} {t : Nat}
theorem cnt_lM (h : OkL (N : Int) es) {a b : Nat} (ha : a < (pn N es t).length) (hb : b < (pn N es t).length) : ((cntE es ((pn N es t).getD a 0) ((pn N es t).getD b 0) : Nat) : Int) = lM N es t a b := by
  rw [cntE_adj h]
  unfold lM
  by_cases e : adj es ((pn N es t).getD a 0) ((pn N es t).getD b 0) = true
  · rw [if_pos e, if_pos ⟨ha, hb, e⟩]; rfl
  · rw [if_neg e, if_neg (fun h => e h.2.2)]; rfl
theorem eh_part (hok : ∀ e ∈ es, okE N e) (hN : N ≤ 10) (ht : t < N) (hr : lab es t = t) : EH ((pn N es t).length - 1) (Vt ((pn N es t).length - 1) (lapM ((pn N es t).length - 1) (lM N es t))) (Dt ((pn N es t).length - 1) (lapM ((pn N es t).length - 1) (lM N es t))) := by
  have hle := pn_len (N := N) (es := es) (t := t)
  have hG := gr_part hok ht hr
  generalize hk : (pn N es t).length - 1 = k at *
  have hk9 : k ≤ 9 := by omega
  have hel := elim_all hG hk9
  refine ⟨Dt_zero k _, fun s => Dt_succ k _ s, fun s a b hs ha hak hb hbk => ?_, fun s hs => ?_, fun s a b hs ha hak hb hbk => ?_⟩
  · exact bareiss (fun t ht => by have := (hel s (by omega)).2 t (by omega); omega) hb hbk
  · have := (hel s hs).2 s (Nat.le_refl s); omega
  · have h1 := (hel s (by omega)).1
    have h2 := h1.abs ha hak hb hbk
    have h3 := h1.bnd
    have h4 : (9 : Nat) ^ s ≤ 9 ^ 8 := Nat.pow_le_pow_right (by omega) (by omega)
    have h5 : ((9 : Nat) ^ s : Nat) = ((9 : Int) ^ s) := by simp
    omega
/-- the word of the nodes whose part is not below t -/
def LW (N : Nat) (es : List E) (t L : Nat) : Prop := ∀ j, L.testBit j = (decide (j < N) && decide (t ≤ lab es j))
theorem LW.start : LW N es 0 (2 ^ N - 1) := fun j => by rw [Nat.testBit_two_pow_sub_one]; simp
theorem LW.lt {L : Nat} (h : LW N es t L) : L < 2 ^ N := Nat.lt_pow_two_of_testBit _ fun j hj => by
  rw [h j, decide_eq_false (by omega)]; rfl
theorem prodT_skip : ∀ {m : Nat}, t ≤ m → (∀ r, t ≤ r → r < m → lab es r ≠ r) → prodT N es m = prodT N es t
  | 0, h, _ => by rw [show t = 0 by omega]
  | m + 1, h, hr => by
    by_cases e : t = m + 1
    · rw [e]
    · rw [prodT, if_neg (hr m (by omega) (by omega))]
      exact prodT_skip (by omega) fun r h1 h2 => hr r h1 (by omega)
theorem LW.none (h : LW N es t 0) (ht : t ≤ N) : prodT N es t = prodT N es N := by
  refine (prodT_skip ht fun r h1 h2 h3 => ?_).symm
  have := h r
  rw [h3, decide_eq_true h2, decide_eq_true h1] at this
  simp at this
theorem low_core : (List.range 1024).all (fun L => L == 0 || bits .and .u32 (L : Int) (-(L : Int) % 4294967296) == ((2 ^ Lib.ctz 32 L : Nat) : Int)) = true := by decide +kernel
theorem bits_part (hN : N ≤ 10) {m R : Nat} (hR : ∀ j, R.testBit j = (decide (j < N) && decide (lab es j = m))) : bitsL R = pn N es m := by
  unfold bitsL pn
  have e : List.range 32 = List.range N ++ (List.range (32 - N)).map (N + ·) := by rw [← List.range_add]; congr 1; omega
  have e2 : ((List.range (32 - N)).map (N + ·)).filter R.testBit = [] := List.filter_eq_nil_iff.2 fun x hx => by
    obtain ⟨y, _, rfl⟩ := List.mem_map.1 hx
    rw [hR, decide_eq_false (by omega)]; simp
  rw [e, List.filter_append, e2, List.append_nil]
  refine List.filter_congr fun j hj => ?_
  rw [hR, decide_eq_true (List.mem_range.1 hj), Bool.true_and, Bool.eq_iff_iff]
  simp
theorem spread_part (hg : gchk N es = 0) {L m R : Nat} (h : LW N es t L) (hmN : m < N) (hm : lab es m = m) (htm : t ≤ m) (hR : IsSpread (nearW N es) L (2 ^ m) R) (j : Nat) : R.testBit j = (decide (j < N) && decide (lab es j = m)) := by
  obtain ⟨_, _, _, hok, _⟩ := gchk_ok hg
  rw [Int.toNat_natCast] at hok
  have hnb : ∀ u v, nb (nearW N es) u v = true → u < N → adj es u v = true := fun u v huv hu => by
    unfold nb at huv; rwa [nearW_bit es hok u v hu] at huv
  have h1 : ∀ j, R.testBit j = true → j < N ∧ lab es j = m := fun j hj => hR.least (fun j => j < N ∧ lab es j = m) (fun x hx => by
    rw [Nat.testBit_two_pow] at hx
    simp at hx
    subst hx; exact ⟨hmN, hm⟩) (fun u v ⟨hu, hul⟩ huv _ => by
    have := adj_in hok (hnb u v huv hu)
    exact ⟨this.2.1, by rw [← this.2.2.2]; exact hul⟩) j hj
  rw [Bool.eq_iff_iff, Bool.and_eq_true, decide_eq_true_eq, decide_eq_true_eq]
  refine ⟨h1 j, fun ⟨hj, hl⟩ => ?_⟩
  have c := cn_of_lab hok es (fun _ h => h) j hj
  rw [hl] at c
  have := cn_least (R := fun u v => R.testBit u = true → R.testBit v = true) (fun _ h => h) (fun _ _ _ h1 h2 h => h2 (h1 h)) (fun u v huv hu => by
    obtain ⟨hu1, hu2⟩ := h1 u hu
    obtain ⟨_, hv, _, hlv⟩ := adj_in hok huv
    refine hR.cl u v hu ?_ ?_
    · unfold nb; rw [nearW_bit es hok u v hu1]; exact huv
    · rw [h v, decide_eq_true hv, decide_eq_true (show t ≤ lab es v by omega)]; rfl) N m j (cn_symm es N _ _ c)
  exact this (hR.sub m (by rw [Nat.testBit_two_pow]; simp))
theorem part_step (hg : gchk N es = 0) {L : Nat} (h : LW N es t L) (h0 : L ≠ 0) : ∃ m, m < N ∧ lab es m = m ∧ t ≤ m ∧ prodT N es t = prodT N es m ∧ bits .and .u32 (L : Int) (-(L : Int) % 4294967296) = ((2 ^ m : Nat) : Int) ∧ ∀ R, IsSpread (nearW N es) L (2 ^ m) R → bitsL R = pn N es m ∧ ∃ L', bits .andNot .u32 (L : Int) (R : Int) = ((L' : Nat) : Int) ∧ L' < L ∧ LW N es (m + 1) L' := by
  obtain ⟨_, hN, _, _, _⟩ := gchk_ok hg
  have hN : N ≤ 10 := by omega
  have hlt := h.lt
  have hp : 2 ^ N ≤ 2 ^ 10 := Nat.pow_le_pow_right (by omega) hN
  have hL32 : L < 4294967296 := by omega
  obtain ⟨b1, b2, _⟩ := low_bits L h0 hL32
  generalize hmc : Lib.ctz 32 L = m at *
  have k1 := b1
  rw [h m, Bool.and_eq_true, decide_eq_true_eq, decide_eq_true_eq] at k1
  obtain ⟨hmN, htm⟩ := k1
  have hle := lab_le es m
  have hlow : ∀ j, j < N → t ≤ lab es j → m ≤ lab es j := fun j hj htj => by
    refine Nat.le_of_not_lt fun hc => ?_
    have hle := lab_le es j
    have := b2 (lab es j) hc
    rw [h, lab_lab, decide_eq_true (show lab es j < N by omega), decide_eq_true htj] at this
    cases this
  have hmr : lab es m = m := by have := hlow m hmN htm; omega
  refine ⟨m, hmN, hmr, by omega, (prodT_skip (by omega) fun r h1 h2 h3 => ?_).symm, ?_, fun R hR => ?_⟩
  · have := hlow r (by omega) (by omega); omega
  · have := List.all_eq_true.1 low_core L (List.mem_range.2 (by omega))
    rw [hmc, beq_eq_false_iff_ne.2 h0, Bool.false_or, beq_iff_eq] at this
    exact this
  · have hb := spread_part hg h hmN hmr (by omega) hR
    have hR32 : R < 2 ^ N := Nat.lt_pow_two_of_testBit _ fun j hj => by rw [hb j, decide_eq_false (by omega)]; rfl
    have hbit : ∀ j, (L &&& (4294967295 - R)).testBit j = (L.testBit j && !R.testBit j) := fun j => by
      rw [Nat.testBit_and]
      by_cases hj : j < 32
      · rw [not32 (by omega) hj]
      · rw [h j, decide_eq_false (by omega)]; rfl
    refine ⟨bits_part hN hb, _, u32_andNot_nat L R (by omega) (by omega), ?_, fun j => ?_⟩
    · have h1 : L &&& (4294967295 - R) ≤ L := Nat.and_le_left
      have h2 : L &&& (4294967295 - R) ≠ L := fun e => by
        have := hbit m
        rw [e, b1, hb m, hmr, decide_eq_true hmN, decide_eq_true rfl] at this
        cases this
      omega
    · rw [hbit, h j, hb j]
      by_cases hj : j < N
      · have := hlow j hj
        rw [decide_eq_true hj, Bool.true_and, Bool.true_and, Bool.true_and, Bool.eq_iff_iff]
        simp
        omega
      · rw [decide_eq_false hj]; rfl
end
end Go.Proofs.YtnkmfnnkophccaaDoor
