/- Who goes node by node: each has the least colour that no neighbour ahead of it has. No program in sight. -/
import Derived.Test.YtnpgnohnpbdblaaDoorPaintD
import Derived.Test.YtnpgnohnpbdblaaDoorPermI
import Derived.Test.YtnpgnohnpbdblaaDoorLinkLaw
namespace Go.Proofs.YtnpgnohnpbdblaaDoor
open Go.RowKit

/-- what holds when the first k of an order have their colours -/
structure GrI (ns : List Nat) (n : Nat) (y : List Nat) (k : Nat) (L : Nat → Int) : Prop where
  none : ∀ m, m ∉ y.take k → L m = -1
  bd : ∀ m, m ∈ y.take k → 0 ≤ L m ∧ L m < n
  dif : ∀ a b, a ∈ y.take k → b ∈ y.take k → nb ns a b = true → L b ≠ L a
  why : ∀ j, j < k → ∀ c : Nat, (c : Int) < L (y.getD j 0) → ∃ i, i < j ∧ nb ns (y.getD j 0) (y.getD i 0) = true ∧ L (y.getD i 0) = c
theorem GrI.start (ns : List Nat) (n : Nat) (y : List Nat) : GrI ns n y 0 fun _ => -1 :=
  ⟨fun _ _ => rfl, fun m h => by simp at h, fun a b h => by simp at h, fun j h => absurd h (by omega)⟩
theorem GrI.all {ns : List Nat} {n k : Nat} {y : List Nat} {L : Nat → Int} (h : GrI ns n y k L) (j : Nat) : -1 ≤ L j ∧ L j < n ∨ L j = -1 := by
  by_cases hj : j ∈ y.take k
  · have := h.bd j hj; omega
  · exact .inr (h.none j hj)
section
variable {ns : List Nat} {n k : Nat} {y : List Nat} {L : Nat → Int}
theorem perm_at (hp : y.Perm (List.range n)) {j : Nat} (hj : j < n) : y.getD j 0 < n ∧ y.getD j 0 ∈ y := by
  have hl : y.length = n := by simpa using hp.length_eq
  have hm : y[j]'(by omega) ∈ y := List.getElem_mem _
  have : y.getD j 0 = y[j]'(by omega) := by simp [List.getD, show j < y.length by omega]
  rw [this]
  exact ⟨List.mem_range.1 (hp.mem_iff.1 hm), hm⟩
theorem perm_new (hp : y.Perm (List.range n)) (hk : k < n) : y.getD k 0 ∉ y.take k := by
  have hl : y.length = n := by simpa using hp.length_eq
  have hnd : y.Nodup := hp.nodup_iff.2 List.nodup_range
  intro hm
  obtain ⟨i, hi, he⟩ := List.mem_take_iff_getElem.1 hm
  have e2 : y.getD k 0 = y[k]'(by omega) := by simp [List.getD, show k < y.length by omega]
  rw [e2] at he
  exact (List.pairwise_iff_getElem.1 hnd) i k (by omega) (by omega) (by omega) he
theorem take_new (hp : y.Perm (List.range n)) (hk : k < n) (m : Nat) : m ∈ y.take (k + 1) ↔ m ∈ y.take k ∨ m = y.getD k 0 := by
  have hl : y.length = n := by simpa using hp.length_eq
  rw [take_succ_getD' y 0 k (by omega)]; simp
/-- one of the colours is free -/
theorem free_colour (g : Gr n ns) (h : GrI ns n y k L) {i : Nat} (hi : i < n) : mayW ns L i n ≠ 0 := by
  have hn := g.n10
  have hL : ∀ j, L j < 32 := fun j => by rcases h.all j with h | h <;> omega
  intro h0
  have hall : ∀ c, c < n → ∃ j, j < n ∧ nb ns i j = true ∧ L j = (c : Int) := fun c hc => by
    refine Classical.byContradiction fun hno => ?_
    have : (mayW ns L i n).testBit c = true := (mayW_iff g hL (by omega)).2 ⟨hc, fun j hj he => hno ⟨j, (g.ok i j hj).2.1, hj, he⟩⟩
    rw [h0] at this; simp at this
  -- an injection of n colours into the n - 1 others
  have hex : ∃ f : Nat → Nat, ∀ c, c < n → f c < n ∧ nb ns i (f c) = true ∧ L (f c) = (c : Int) := by
    refine ⟨fun c => if hc : c < n then Classical.choose (hall c hc) else 0, fun c hc => ?_⟩
    have := Classical.choose_spec (hall c hc)
    simpa [hc] using this
  obtain ⟨f, hf⟩ := hex
  have hnd : (i :: (List.range n).map f).Nodup := by
    rw [List.nodup_cons]
    refine ⟨fun hm => ?_, ?_⟩
    · obtain ⟨c, hc, he⟩ := List.mem_map.1 hm
      have := (hf c (List.mem_range.1 hc)).2.1
      rw [he] at this
      exact (g.ok i i this).2.2.2 rfl
    · rw [List.Nodup, List.pairwise_map]
      refine List.Pairwise.imp_of_mem ?_ List.nodup_range
      intro a b ha hb hab he
      have h1 := (hf a (List.mem_range.1 ha)).2.2
      have h2 := (hf b (List.mem_range.1 hb)).2.2
      rw [he, h2] at h1
      omega
  have := List.Nodup.length_le_of_subset (l₂ := List.range n) hnd (fun a ha => by
    rcases List.mem_cons.1 ha with rfl | ha
    · exact List.mem_range.2 hi
    · obtain ⟨c, hc, rfl⟩ := List.mem_map.1 ha
      exact List.mem_range.2 (hf c (List.mem_range.1 hc)).1)
  simp at this
  omega
theorem GrI.step (g : Gr n ns) (hp : y.Perm (List.range n)) (hk : k < n) (h : GrI ns n y k L) {c : Nat} (hc : (mayW ns L (y.getD k 0) n).testBit c = true) (hlow : ∀ d, d < c → (mayW ns L (y.getD k 0) n).testBit d = false) :
    GrI ns n y (k + 1) (updN L (y.getD k 0) c) := by
  have hn := g.n10
  have hL : ∀ j, L j < 32 := fun j => by rcases h.all j with h | h <;> omega
  obtain ⟨hcn, hcno⟩ := (mayW_iff g hL (by omega)).1 hc
  have hnew := perm_new hp hk
  have hne : ∀ m, m ∈ y.take k → m ≠ y.getD k 0 := fun m hm e => hnew (e ▸ hm)
  have hold : ∀ m, m ∈ y.take k → updN L (y.getD k 0) c m = L m := fun m hm => by unfold updN; rw [if_neg (hne m hm)]
  have hself : updN L (y.getD k 0) c (y.getD k 0) = c := by simp [updN]
  have hyl : y.length = n := by simpa using hp.length_eq
  have hin : ∀ j, j < k → y.getD j 0 ∈ y.take k := fun j hj => by
    have : y.getD j 0 = y[j]'(by omega) := by simp [List.getD, show j < y.length by omega]
    rw [this]; exact List.mem_take_iff_getElem.2 ⟨j, by omega, rfl⟩
  refine ⟨fun m hm => ?_, fun m hm => ?_, fun a b ha hb hab => ?_, fun j hj d hd => ?_⟩
  · rw [take_new hp hk] at hm
    have h1 : m ≠ y.getD k 0 := fun e => hm (.inr e)
    unfold updN; rw [if_neg h1]; exact h.none m fun h2 => hm (.inl h2)
  · rcases (take_new hp hk m).1 hm with hm | rfl
    · rw [hold m hm]; exact h.bd m hm
    · rw [hself]; omega
  · rcases (take_new hp hk a).1 ha with ha | rfl <;> rcases (take_new hp hk b).1 hb with hb | rfl
    · rw [hold a ha, hold b hb]; exact h.dif a b ha hb hab
    · rw [hold a ha, hself]
      have := hcno a (g.ok a _ hab).2.2.1
      exact fun e => this e.symm
    · rw [hold b hb, hself]; exact hcno b hab
    · exact absurd rfl (g.ok _ _ hab).2.2.2
  · rcases Nat.lt_or_ge j k with hjk | hjk
    · rw [hold _ (hin j hjk)] at hd
      obtain ⟨i, h1, h2, h3⟩ := h.why j hjk d hd
      exact ⟨i, h1, h2, by rw [hold _ (hin i (by omega))]; exact h3⟩
    · obtain rfl : j = k := by omega
      rw [hself] at hd
      have hdc : d < c := by omega
      have hno := hlow d hdc
      have : ∃ m, nb ns (y.getD j 0) m = true ∧ L m = (d : Int) := by
        refine Classical.byContradiction fun hno2 => ?_
        have := (mayW_iff g hL (show n ≤ 32 by omega) (i := y.getD j 0) (c := d)).2 ⟨by omega, fun m hm he => hno2 ⟨m, hm, he⟩⟩
        rw [hno] at this; cases this
      obtain ⟨m, h1, h2⟩ := this
      have hm : m ∈ y.take j := Classical.byContradiction fun hno2 => by have := h.none m hno2; omega
      obtain ⟨i, hi, he⟩ := List.mem_take_iff_getElem.1 hm
      have e2 : y.getD i 0 = m := by rw [← he]; simp [List.getD, show i < y.length by omega]
      refine ⟨i, by omega, by rw [e2]; exact h1, ?_⟩
      rw [e2, hold m hm]; exact h2
/-- all have a colour -/
theorem GrI.col (g : Gr n ns) (hp : y.Perm (List.range n)) (h : GrI ns n y n L) : Col ns n n L := by
  have hyl : y.length = n := by simpa using hp.length_eq
  have hin : ∀ j, j < n → j ∈ y.take n := fun j hj => by rw [List.take_of_length_le (by omega)]; exact hp.mem_iff.2 (List.mem_range.2 hj)
  intro j hj
  refine ⟨(h.bd j (hin j hj)).1, (h.bd j (hin j hj)).2, fun m hm => h.dif j m (hin j hj) (hin m (g.ok j m hm).2.1) hm⟩
/-- no greater than how many are ahead -/
theorem GrI.pos (h : GrI ns n y n L) {j : Nat} (hj : j < n) (h0 : 0 ≤ L (y.getD j 0)) : L (y.getD j 0) ≤ j := by
  obtain ⟨c, hc⟩ := Int.eq_ofNat_of_zero_le h0
  rw [hc]
  have hex : ∃ f : Nat → Nat, ∀ d, d < c → f d < j ∧ L (y.getD (f d) 0) = (d : Int) := by
    refine ⟨fun d => if hd : d < c then Classical.choose (h.why j hj d (by omega)) else 0, fun d hd => ?_⟩
    have := Classical.choose_spec (h.why j hj d (by omega))
    simp only [hd, dite_true]
    exact ⟨this.1, this.2.2⟩
  obtain ⟨f, hf⟩ := hex
  have hnd : ((List.range c).map f).Nodup := by
    rw [List.Nodup, List.pairwise_map]
    refine List.Pairwise.imp_of_mem ?_ List.nodup_range
    intro a b ha hb hab he
    have h1 := (hf a (List.mem_range.1 ha)).2
    have h2 := (hf b (List.mem_range.1 hb)).2
    rw [he, h2] at h1; omega
  have := List.Nodup.length_le_of_subset (l₂ := List.range j) hnd (fun a ha => by
    obtain ⟨d, hd, rfl⟩ := List.mem_map.1 ha
    exact List.mem_range.2 (hf d (List.mem_range.1 hd)).1)
  simp at this; omega
/-- no greater than how many neighbours it has -/
theorem GrI.deg (g : Gr n ns) (h : GrI ns n y n L) {j : Nat} (hj : j < n) (h0 : 0 ≤ L (y.getD j 0)) : L (y.getD j 0) ≤ cntB n fun m => nb ns (y.getD j 0) m := by
  obtain ⟨c, hc⟩ := Int.eq_ofNat_of_zero_le h0
  rw [hc]
  have hex : ∃ f : Nat → Nat, ∀ d, d < c → nb ns (y.getD j 0) (f d) = true ∧ L (f d) = (d : Int) := by
    refine ⟨fun d => if hd : d < c then y.getD (Classical.choose (h.why j hj d (by omega))) 0 else 0, fun d hd => ?_⟩
    have := Classical.choose_spec (h.why j hj d (by omega))
    simp only [hd, dite_true]
    exact this.2
  obtain ⟨f, hf⟩ := hex
  have hnd : ((List.range c).map f).Nodup := by
    rw [List.Nodup, List.pairwise_map]
    refine List.Pairwise.imp_of_mem ?_ List.nodup_range
    intro a b ha hb hab he
    have h1 := (hf a (List.mem_range.1 ha)).2
    have h2 := (hf b (List.mem_range.1 hb)).2
    rw [he, h2] at h1; omega
  have := List.Nodup.length_le_of_subset (l₂ := (List.range n).filter fun m => nb ns (y.getD j 0) m) hnd (fun a ha => by
    obtain ⟨d, hd, rfl⟩ := List.mem_map.1 ha
    have := (hf d (List.mem_range.1 hd)).1
    exact List.mem_filter.2 ⟨List.mem_range.2 (g.ok _ _ this).2.1, this⟩)
  simp only [List.length_map, List.length_range] at this
  unfold cntB; omega
/-- in an order by another colouring none has a greater colour -/
theorem GrI.under (hp : y.Perm (List.range n)) (h : GrI ns n y n L) {K : Nat} {M : Nat → Int} (hM : Col ns n K M) (hs : ∀ i j, i ≤ j → j < n → M (y.getD i 0) ≤ M (y.getD j 0)) : ∀ j, j < n → L (y.getD j 0) ≤ M (y.getD j 0) := by
  intro j
  induction j using Nat.strongRecOn with
  | _ j ih =>
    intro hj
    refine Int.le_of_not_gt fun hlt => ?_
    obtain ⟨h1, h2⟩ := perm_at hp hj
    obtain ⟨c, hc⟩ := Int.eq_ofNat_of_zero_le (hM _ h1).1
    obtain ⟨i, hi, hnb, he⟩ := h.why j hj c (by omega)
    have h3 := ih i hi (by omega)
    have h4 := hs i j (by omega) hj
    have h5 := (hM _ h1).2.2 _ hnb
    omega
end
end Go.Proofs.YtnpgnohnpbdblaaDoor
