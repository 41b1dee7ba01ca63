/- circle: the ways that on finds are the rings of all: plain. -/
import Derived.Test.YtknfflhmhjfkeaaDoorOreLaw
import Derived.Test.YtknfflhmhjfkeaaDoorNearGr
import Derived.Test.YtknfflhmhjfkeaaDoorDegLaw
namespace Go.Proofs.YtknfflhmhjfkeaaDoor
open Go.RowKit

theorem Wy.props {ns : List Nat} {a x : Nat} {R : List Nat} (h : Wy ns a x R) : x < 2 ^ 32 → R.getD 0 0 = a ∧ (∀ k, k + 1 < R.length → nb ns (R.getD k 0) (R.getD (k + 1) 0) = true) ∧ nb ns (R.getD (R.length - 1) 0) 0 = true ∧ R.tail.Perm (bitsL x) := by
  induction h with
  | @last a h => exact fun _ => ⟨rfl, fun k hk => absurd hk (by simp), h, by rw [show bitsL 0 = [] by decide]; exact .nil⟩
  | @step a x i l h1 h2 h3 ih =>
    intro hx
    obtain ⟨i1, i2, i3, i4⟩ := ih (Nat.lt_of_le_of_lt (del_le _ _) hx)
    have hl := h3.ne
    obtain ⟨b, l', rfl⟩ : ∃ b l', l = b :: l' := by cases l with
      | nil => simp at hl
      | cons b l' => exact ⟨b, l', rfl⟩
    obtain rfl : b = i := i1
    refine ⟨rfl, fun k hk => ?_, ?_, ?_⟩
    · cases k with
      | zero => exact h2
      | succ k => exact i2 k (by simpa using hk)
    · simpa using i3
    · exact (List.Perm.cons b i4).trans (bitsL_sub hx h1)
theorem wy_of {ns : List Nat} : ∀ (R : List Nat) (a x : Nat), x < 2 ^ 32 → (∀ c, x.testBit c = true ↔ c ∈ R) → R.Nodup → (∀ k, k < R.length → nb ns ((a :: R).getD k 0) (R.getD k 0) = true) → nb ns ((a :: R).getD R.length 0) 0 = true → Wy ns a x (a :: R)
  | [], a, x, _, hb, _, _, hl => by
    obtain rfl : x = 0 := Nat.eq_of_testBit_eq fun i => by
      cases h : x.testBit i
      · simp
      · exact absurd ((hb i).1 h) (by simp)
    exact .last hl
  | b :: R, a, x, hx, hb, hn, hp, hl => by
    have hbx : x.testBit b = true := (hb b).2 (by simp)
    have hb32 := lt_bitN hx hbx
    rw [List.nodup_cons] at hn
    refine .step hbx (hp 0 (by simp)) (wy_of R b (del x b) (Nat.lt_of_le_of_lt (del_le _ _) hx) (fun c => ?_) hn.2 (fun k hk => hp (k + 1) (by simpa using hk)) (by simpa using hl))
    rw [sub_bit hx hb32, Bool.and_eq_true, hb c]
    simp only [List.mem_cons, Bool.not_eq_true', decide_eq_false_iff_not]
    constructor
    · rintro ⟨h1 | h1, h2⟩
      · exact absurd h1.symm h2
      · exact h1
    · intro h
      exact ⟨.inr h, fun e => hn.1 (e ▸ h)⟩
/-- all nodes but the node 0 -/
def but0 (n : Nat) : Nat := del (2 ^ n - 1) 0
theorem but0_bit {n : Nat} (hn : n ≤ 10) (c : Nat) : (but0 n).testBit c = true ↔ 0 < c ∧ c < n := by
  have hp : 2 ^ n ≤ 2 ^ 10 := Nat.pow_le_pow_right (by omega) hn
  unfold but0
  rw [sub_bit (by omega) (by omega), Nat.testBit_two_pow_sub_one, Bool.and_eq_true]
  simp only [decide_eq_true_eq, Bool.not_eq_true', decide_eq_false_iff_not]
  omega
theorem but0_lt {n : Nat} : but0 n < 2 ^ n := by
  have := Nat.two_pow_pos n
  have := del_le (2 ^ n - 1) 0
  unfold but0
  omega
theorem wy_cy {ns : List Nat} {n : Nat} (hn : n ≤ 10) (h1 : 1 ≤ n) {R : List Nat} (h : Wy ns 0 (but0 n) R) : R.Perm (List.range n) ∧ Cy (nb ns) n fun k => R.getD k 0 := by
  have hp : 2 ^ n ≤ 2 ^ 10 := Nat.pow_le_pow_right (by omega) hn
  have hb := but0_lt (n := n)
  obtain ⟨i1, i2, i3, i4⟩ := h.props (by omega)
  have hl := h.ne
  obtain ⟨b, l', rfl⟩ : ∃ b l', R = b :: l' := by cases R with
    | nil => simp at hl
    | cons b l' => exact ⟨b, l', rfl⟩
  obtain rfl : b = 0 := i1
  have hbits : ∀ c, c ∈ l' ↔ 0 < c ∧ c < n := fun c => by
    have := i4.mem_iff (a := c)
    rw [List.tail_cons, mem_bitsL, but0_bit hn] at this
    rw [this]
    omega
  have hnd : l'.Nodup := i4.nodup_iff.2 (bitsL_nodup _)
  have hperm : (0 :: l').Perm (List.range n) := by
    refine (List.perm_ext_iff_of_nodup ?_ List.nodup_range).2 fun c => ?_
    · rw [List.nodup_cons]; exact ⟨fun h => by have := (hbits 0).1 h; omega, hnd⟩
    · rw [List.mem_cons, hbits, List.mem_range]; omega
  have hlen : (0 :: l').length = n := by simpa using hperm.length_eq
  refine ⟨hperm, fun k hk => ?_, fun j k hj hk e => ?_, fun k hk => ?_⟩
  · have hm : (0 :: l')[k]'(by omega) ∈ List.range n := hperm.mem_iff.1 (List.getElem_mem _)
    simpa [List.getD, List.getElem?_eq_getElem (show k < (0 :: l').length by omega)] using List.mem_range.1 hm
  · have hnd2 : (0 :: l').Nodup := hperm.nodup_iff.2 List.nodup_range
    simp only [List.getD, List.getElem?_eq_getElem (show j < (0 :: l').length by omega), List.getElem?_eq_getElem (show k < (0 :: l').length by omega), Option.getD_some] at e
    have hpw := List.pairwise_iff_getElem.1 (List.nodup_iff_pairwise_ne.1 hnd2)
    rcases Nat.lt_trichotomy j k with hjk | hjk | hjk
    · exact absurd e (hpw j k (by omega) (by omega) hjk)
    · exact hjk
    · exact absurd e.symm (hpw k j (by omega) (by omega) hjk)
  · rcases Nat.lt_or_ge (k + 1) n with h | h
    · rw [Nat.mod_eq_of_lt h]; exact i2 k (by omega)
    · rw [show k + 1 = n by omega, Nat.mod_self]
      rw [hlen, show n - 1 = k by omega] at i3
      exact i3
theorem cy_wy {ns : List Nat} {n : Nat} (hn : n ≤ 10) (h1 : 1 ≤ n) {p : Nat → Nat} (h : Cy (nb ns) n p) : ∃ R, Wy ns 0 (but0 n) R := by
  have hp : 2 ^ n ≤ 2 ^ 10 := Nat.pow_le_pow_right (by omega) hn
  have hb := but0_lt (n := n)
  obtain ⟨c, hc, hc0⟩ : ∃ c, c < n ∧ p c = 0 := by
    have := (map_perm h.lt h.inj).mem_iff (a := 0)
    rw [List.mem_range] at this
    obtain ⟨c, hc, e⟩ := List.mem_map.1 (this.2 h1)
    exact ⟨c, List.mem_range.1 hc, e⟩
  have hr := h.rot c
  obtain ⟨q, hq⟩ : ∃ q : Nat → Nat, q = fun k => p ((k + c) % n) := ⟨_, rfl⟩
  rw [← hq] at hr
  have q0 : q 0 = 0 := by rw [hq]; dsimp only; rw [Nat.zero_add, Nat.mod_eq_of_lt hc, hc0]
  obtain ⟨m, rfl⟩ : ∃ m, n = m + 1 := ⟨n - 1, by omega⟩
  have hget : ∀ k, k < m + 1 → ((0 :: (List.range m).map fun k => q (k + 1)).getD k 0) = q k := fun k hk => by
    cases k with
    | zero => exact q0.symm
    | succ k => simp [List.getD, show k < m by omega]
  have hget2 : ∀ k, k < m → (((List.range m).map fun k => q (k + 1)).getD k 0) = q (k + 1) := fun k hk => by simp [List.getD, hk]
  refine ⟨_, wy_of ((List.range m).map fun k => q (k + 1)) 0 (but0 (m + 1)) (by omega) (fun c => ?_) ?_ (fun k hk => ?_) ?_⟩
  · rw [but0_bit hn]
    have := (map_perm hr.lt hr.inj).mem_iff (a := c)
    rw [List.range_succ_eq_map, List.map_cons, List.mem_cons, List.map_map, q0, ← List.range_succ_eq_map, List.mem_range] at this
    have e : (List.map (q ∘ Nat.succ) (List.range m)) = (List.range m).map fun k => q (k + 1) := rfl
    rw [e] at this
    have hz : 0 ∉ (List.range m).map fun k => q (k + 1) := fun h => by
      obtain ⟨k, hk, e⟩ := List.mem_map.1 h
      have := hr.inj (k + 1) 0 (by have := List.mem_range.1 hk; omega) (by omega) (by rw [q0]; exact e)
      omega
    constructor
    · rintro ⟨h1, h2⟩
      rcases this.2 h2 with h3 | h3
      · omega
      · exact h3
    · intro h3
      exact ⟨Nat.pos_of_ne_zero fun e => hz (e ▸ h3), this.1 (.inr h3)⟩
  · rw [List.nodup_iff_pairwise_ne, List.pairwise_map, List.pairwise_iff_getElem]
    intro i j h1 h2 h3 h4
    simp only [List.length_range] at h1 h2
    simp only [List.getElem_range] at h4
    have := hr.inj _ _ (by omega) (by omega) h4
    omega
  · have hk' : k < m := by simpa using hk
    rw [hget k (by omega), hget2 k hk']
    have := hr.adj k (by omega)
    rwa [Nat.mod_eq_of_lt (by omega)] at this
  · rw [List.length_map, List.length_range, hget m (by omega)]
    have := hr.adj m (by omega)
    rw [Nat.mod_self, q0] at this
    exact this
/-- ORE, as it is asked -/
theorem ore_wy {N : Nat} {es : List E} (hok : gchk N es = 0) (h3 : 3 ≤ N) (h : ∀ i j, i < N → j < i → adj es i j = false → N ≤ degE es i + degE es j) : ∃ R, Wy (nearW N es) 0 (but0 N) R := by
  have g := nearGr hok
  obtain ⟨_, h10, hd, hokE, hall⟩ := gchk_ok hok
  rw [Int.toNat_natCast] at hokE
  have hdeg : ∀ i, i < N → degA (nb (nearW N es)) N i = degE es i := fun i hi => by
    rw [← dg_deg g.n10 hokE hall hi]
    unfold degA dg
    rw [List.countP_eq_length_filter]
    congr 1
    exact List.filter_congr fun j _ => nearW_bit es hokE i j hi
  have hsa : SA (nb (nearW N es)) N := ⟨fun a b hab => (g.ok a b hab).2.2.1, fun a => by
    cases hh : nb (nearW N es) a a
    · rfl
    · exact absurd rfl (g.ok a a hh).2.2.2⟩
  obtain ⟨p, hp⟩ := ore h3 hsa fun u v hu hv huv hno => by
    rw [hdeg u hu, hdeg v hv]
    have e : nb (nearW N es) u v = adj es u v := nearW_bit es hokE u v hu
    rw [e] at hno
    rcases Nat.lt_or_ge v u with hlt | hge
    · exact h u v hu hlt hno
    · rw [Nat.add_comm]
      exact h v u hv (by omega) (by rw [adj_symm]; exact hno)
  exact cy_wy g.n10 (by omega) hp
end Go.Proofs.YtknfflhmhjfkeaaDoor
