/- Pairings, one by one: the least that lets as many be paired as can be. No program in sight. -/
import Derived.Test.YtepphkloghaihaaDoorBerLaw
import Derived.Test.YtepphkloghaihaaDoorBerMany
import Derived.Test.YtepphkloghaihaaDoorBerA
namespace Go.Proofs.YtepphkloghaihaaDoor

def IsMax (ns : List Nat) (k : Nat) : Prop := (∃ P, PM ns 0 P ∧ cntP P = k) ∧ ∀ P, PM ns 0 P → cntP P ≤ k
theorem Mx.isMax {ns : List Nat} (hn8 : ns.length ≤ 8) {k : Nat} (h : Mx ns k) : IsMax ns k := ⟨h.1, fun _ hP => h.le hn8 hP⟩
theorem cut_len (ns : List Nat) (f m : Nat) : (cutW ns f m).length = ns.length - f := by simp [cutW]
theorem cut_nbr {ns : List Nat} (hns : ∀ i, ns.getD i 0 < 256) {f m : Nat} (hm : m < 256) (a j : Nat) : nbr (cutW ns f m) a j = (nbr ns (f + a) j && !m.testBit j) := by
  unfold nbr cutW
  rcases Nat.lt_or_ge (f + a) ns.length with h | h
  · have : ((ns.drop f).map fun x => andN x m).getD a 0 = andN (ns.getD (f + a) 0) m := by
      rw [List.getD, List.getElem?_map, List.getElem?_drop, List.getElem?_eq_getElem h]
      simp [List.getD, h]
    rw [this, testBit_andN (by omega) (by have := hns (f + a); omega)]
  · have h1 : ((ns.drop f).map fun x => andN x m).getD a 0 = 0 := by
      rw [List.getD, List.getElem?_map, List.getElem?_drop, List.getElem?_eq_none h]; rfl
    have h2 : ns.getD (f + a) 0 = 0 := by rw [List.getD, List.getElem?_eq_none h]; rfl
    rw [h1, h2]; simp
theorem PM.of_nbr {ns ms : List Nat} (hl : ns.length = ms.length) (h : ∀ a j, nbr ns a j = nbr ms a j) {X : Nat} {P : Nat → Int} (hP : PM ns X P) : PM ms X P :=
  ⟨fun j hj => by rw [← hl]; exact hP.rng j hj, fun j hj hx h0 => by rw [← h]; exact hP.ed j hj hx h0, hP.inj⟩
theorem IsMax.of_nbr {ns ms : List Nat} (hl : ns.length = ms.length) (h : ∀ a j, nbr ns a j = nbr ms a j) {k : Nat} (hk : IsMax ns k) : IsMax ms k := by
  obtain ⟨⟨P, h1, h2⟩, h3⟩ := hk
  exact ⟨⟨P, h1.of_nbr hl h, h2⟩, fun P hP => h3 P (hP.of_nbr hl.symm fun a j => (h a j).symm)⟩
section
variable {ns : List Nat} {i u j b k : Nat}
/-- whoever comes next takes one, and the rest as many as it can -/
theorem take_le (hns : ∀ i, ns.getD i 0 < 256) (hi : i < ns.length) (hu : u < 256) (hj8 : j < 8) (hj : nbr ns i j = true) (hju : u.testBit j = false) {u' : Nat} (hu' : u' < 256) (hp : plusB u u' j) (hb : IsMax (cutW ns (i + 1) u') b) (hk : IsMax (cutW ns i u) k) : 1 + b ≤ k := by
  obtain ⟨⟨P, hP, rfl⟩, _⟩ := hb
  have hnj : P j < 0 := Int.not_le.1 fun h0 => by
    have := hP.ed j hj8 (z0 j) h0
    rw [cut_nbr hns hu', hp j] at this
    simp at this
  have hl : (cutW ns (i + 1) u').length + 1 = (cutW ns i u).length := by rw [cut_len, cut_len]; omega
  have hQ : PM (cutW ns i u) 0 (fun q => if q = j then 0 else if P q < 0 then -1 else P q + 1) := by
    refine ⟨fun q hq => ?_, fun q hq _ h0 => ?_, fun q q' hq hq' _ _ h0 he => ?_⟩
    · have := hP.rng q hq
      show -1 ≤ (if q = j then (0 : Int) else if P q < 0 then -1 else P q + 1) ∧ _ < _
      split
      · omega
      · split <;> omega
    · show nbr _ (if q = j then (0 : Int) else if P q < 0 then -1 else P q + 1).toNat q = true
      by_cases e : q = j
      · subst e
        rw [if_pos rfl, cut_nbr hns hu]
        simp only [Int.toNat_zero, Nat.add_zero, hj, hju]; rfl
      · rw [if_neg e]
        by_cases hn : P q < 0
        · exfalso
          have h0' : 0 ≤ (if q = j then (0 : Int) else if P q < 0 then -1 else P q + 1) := h0
          rw [if_neg e, if_pos hn] at h0'
          omega
        · rw [if_neg hn]
          have := hP.ed q hq (z0 q) (by omega)
          rw [cut_nbr hns hu', hp q] at this
          simp only [Bool.and_eq_true, Bool.not_eq_true', Bool.or_eq_false_iff] at this
          rw [cut_nbr hns hu, show i + (P q + 1).toNat = i + 1 + (P q).toNat by omega, this.1, this.2.1]; rfl
    · have h0' : 0 ≤ (if q = j then (0 : Int) else if P q < 0 then -1 else P q + 1) := h0
      have he' : (if q = j then (0 : Int) else if P q < 0 then -1 else P q + 1) = (if q' = j then (0 : Int) else if P q' < 0 then -1 else P q' + 1) := he
      by_cases e : q = j
      · by_cases e2 : q' = j
        · omega
        · rw [if_pos e, if_neg e2] at he'
          split at he' <;> omega
      · by_cases e2 : q' = j
        · rw [if_neg e, if_pos e2] at he'
          split at he' <;> omega
        · rw [if_neg e] at h0'
          rw [if_neg e, if_neg e2] at he'
          by_cases n1 : P q < 0
          · rw [if_pos n1] at h0'; omega
          · rw [if_neg n1] at he'
            by_cases n2 : P q' < 0
            · rw [if_pos n2] at he'; omega
            · rw [if_neg n2] at he'
              exact hP.inj q q' hq hq' (z0 _) (z0 _) (by omega) (by omega)
  have h1 := hk.2 _ hQ
  have h2 : cntP P + 1 ≤ cntP (fun q => if q = j then 0 else if P q < 0 then -1 else P q + 1) := by
    refine cnt_inj1 id j ⟨hj8, by simp⟩ (fun q hq hp' => ?_) (fun _ _ _ _ _ _ e => e)
    have h0 : 0 ≤ P q := by simpa using hp'
    have hne : q ≠ j := fun e => by subst e; omega
    refine ⟨hq, ?_, hne⟩
    show decide (0 ≤ (if q = j then (0 : Int) else if P q < 0 then -1 else P q + 1)) = true
    rw [if_neg hne, if_neg (by omega)]
    exact decide_eq_true (by omega)
  omega
/-- if none that it could take lets as many be paired, it is left over -/
theorem leave (hns : ∀ i, ns.getD i 0 < 256) (hi : i < ns.length) (hu : u < 256) (hk : IsMax (cutW ns i u) k) (hno : ∀ j, j < 8 → nbr ns i j = true → u.testBit j = false → ∃ b u', u' < 256 ∧ plusB u u' j ∧ IsMax (cutW ns (i + 1) u') b ∧ 1 + b ≠ k) : IsMax (cutW ns (i + 1) u) k := by
  have hl : (cutW ns (i + 1) u).length + 1 = (cutW ns i u).length := by rw [cut_len, cut_len]; omega
  refine ⟨?_, fun P hP => ?_⟩
  · obtain ⟨P, hP, hc⟩ := hk.1
    by_cases hz : ∃ j, j < 8 ∧ P j = 0
    · exfalso
      obtain ⟨j, hj8, hj⟩ := hz
      have he := hP.ed j hj8 (z0 j) (by omega)
      rw [cut_nbr hns hu, hj] at he
      simp only [Int.toNat_zero, Nat.add_zero, Bool.and_eq_true, Bool.not_eq_true'] at he
      obtain ⟨b, u', hu', hp, hb, hne⟩ := hno j hj8 he.1 he.2
      have h1 := take_le hns hi hu hj8 he.1 he.2 hu' hp hb hk
      have hl' : (cutW ns (i + 1) u').length + 1 = (cutW ns i u).length := by rw [cut_len, cut_len]; omega
      have huniq : ∀ q, q < 8 → q ≠ j → 0 ≤ P q → 1 ≤ P q := fun q hq hne' h0 => by
        by_cases e : P q = 0
        · exact absurd (hP.inj q j hq hj8 (z0 _) (z0 _) h0 (by omega)) hne'
        · omega
      have hQ : PM (cutW ns (i + 1) u') 0 (fun q => if q = j then -1 else if P q < 0 then -1 else P q - 1) := by
        refine ⟨fun q hq => ?_, fun q hq _ h0 => ?_, fun q q' hq hq' _ _ h0 he' => ?_⟩
        · have := hP.rng q hq
          show -1 ≤ (if q = j then (-1 : Int) else if P q < 0 then -1 else P q - 1) ∧ _ < _
          split
          · omega
          · split <;> omega
        · have h0' : 0 ≤ (if q = j then (-1 : Int) else if P q < 0 then -1 else P q - 1) := h0
          show nbr _ (if q = j then (-1 : Int) else if P q < 0 then -1 else P q - 1).toNat q = true
          by_cases e : q = j
          · rw [if_pos e] at h0'; omega
          · rw [if_neg e] at h0' ⊢
            by_cases hn : P q < 0
            · rw [if_pos hn] at h0'; omega
            · rw [if_neg hn]
              have h3 := huniq q hq e (by omega)
              have := hP.ed q hq (z0 q) (by omega)
              rw [cut_nbr hns hu] at this
              simp only [Bool.and_eq_true, Bool.not_eq_true'] at this
              rw [cut_nbr hns hu', hp q, show i + 1 + (P q - 1).toNat = i + (P q).toNat by omega, this.1, this.2]
              simp [e]
        · have h0' : 0 ≤ (if q = j then (-1 : Int) else if P q < 0 then -1 else P q - 1) := h0
          have he2 : (if q = j then (-1 : Int) else if P q < 0 then -1 else P q - 1) = (if q' = j then (-1 : Int) else if P q' < 0 then -1 else P q' - 1) := he'
          by_cases e : q = j
          · rw [if_pos e] at h0'; omega
          · rw [if_neg e] at h0' he2
            by_cases n1 : P q < 0
            · rw [if_pos n1] at h0'; omega
            · rw [if_neg n1] at h0' he2
              by_cases e2 : q' = j
              · rw [if_pos e2] at he2; omega
              · rw [if_neg e2] at he2
                by_cases n2 : P q' < 0
                · rw [if_pos n2] at he2; omega
                · rw [if_neg n2] at he2
                  exact hP.inj q q' hq hq' (z0 _) (z0 _) (by omega) (by omega)
      have h2 := hb.2 _ hQ
      have h3 : cntP P ≤ cntP (fun q => if q = j then -1 else if P q < 0 then -1 else P q - 1) + 1 := by
        have s := cnt_split (fun q => decide (0 ≤ P q)) (fun q => q == j)
        have a : cnt8 (fun q => decide (0 ≤ P q) && (q == j)) ≤ 1 := by
          have := cnt_inj (p := fun q => decide (0 ≤ P q) && (q == j)) (q := fun q => decide (q < 1)) (fun _ => 0) (fun _ _ _ => by simp) (fun q q' _ _ h h' _ => by
            simp at h h'; omega)
          rwa [cnt_below 1 (by omega)] at this
        have c : cnt8 (fun q => decide (0 ≤ P q) && !(q == j)) ≤ cntP (fun q => if q = j then -1 else if P q < 0 then -1 else P q - 1) := cnt_mono fun q hq h => by
          simp at h
          have := huniq q hq h.2 h.1
          show decide (0 ≤ (if q = j then (-1 : Int) else if P q < 0 then -1 else P q - 1)) = true
          rw [if_neg h.2, if_neg (by omega)]
          exact decide_eq_true (by omega)
        unfold cntP at c ⊢
        omega
      omega
    · refine ⟨fun q => if P q < 0 then -1 else P q - 1, ⟨fun q hq => ?_, fun q hq _ h0 => ?_, fun q q' hq hq' _ _ h0 he => ?_⟩, ?_⟩
      · have := hP.rng q hq
        have : P q ≠ 0 := fun e => hz ⟨q, hq, e⟩
        show -1 ≤ (if P q < 0 then (-1 : Int) else P q - 1) ∧ _ < _
        split <;> omega
      · have h0' : 0 ≤ (if P q < 0 then (-1 : Int) else P q - 1) := h0
        show nbr _ (if P q < 0 then (-1 : Int) else P q - 1).toNat q = true
        by_cases hn : P q < 0
        · rw [if_pos hn] at h0'; omega
        · rw [if_neg hn] at h0' ⊢
          have := hP.ed q hq (z0 q) (by omega)
          rw [cut_nbr hns hu] at this
          rw [cut_nbr hns hu, show i + 1 + (P q - 1).toNat = i + (P q).toNat by omega]
          exact this
      · have h0' : 0 ≤ (if P q < 0 then (-1 : Int) else P q - 1) := h0
        have he' : (if P q < 0 then (-1 : Int) else P q - 1) = (if P q' < 0 then (-1 : Int) else P q' - 1) := he
        by_cases n1 : P q < 0
        · rw [if_pos n1] at h0'; omega
        · rw [if_neg n1] at h0' he'
          by_cases n2 : P q' < 0
          · rw [if_pos n2] at he'; omega
          · rw [if_neg n2] at he'
            exact hP.inj q q' hq hq' (z0 _) (z0 _) (by omega) (by omega)
      · rw [← hc]
        refine cnt_congr fun q hq => ?_
        have : P q ≠ 0 := fun e => hz ⟨q, hq, e⟩
        show decide (0 ≤ (if P q < 0 then (-1 : Int) else P q - 1)) = decide (0 ≤ P q)
        split <;> (congr 1; apply propext; omega)
  · -- a pairing of the rest is one of all
    have hQ : PM (cutW ns i u) 0 (fun q => if P q < 0 then -1 else P q + 1) := by
      refine ⟨fun q hq => ?_, fun q hq _ h0 => ?_, fun q q' hq hq' _ _ h0 he => ?_⟩
      · have := hP.rng q hq
        show -1 ≤ (if P q < 0 then (-1 : Int) else P q + 1) ∧ _ < _
        split <;> omega
      · have h0' : 0 ≤ (if P q < 0 then (-1 : Int) else P q + 1) := h0
        show nbr _ (if P q < 0 then (-1 : Int) else P q + 1).toNat q = true
        by_cases hn : P q < 0
        · rw [if_pos hn] at h0'; omega
        · rw [if_neg hn]
          have := hP.ed q hq (z0 q) (by omega)
          rw [cut_nbr hns hu] at this
          rw [cut_nbr hns hu, show i + (P q + 1).toNat = i + 1 + (P q).toNat by omega]
          exact this
      · have h0' : 0 ≤ (if P q < 0 then (-1 : Int) else P q + 1) := h0
        have he' : (if P q < 0 then (-1 : Int) else P q + 1) = (if P q' < 0 then (-1 : Int) else P q' + 1) := he
        by_cases n1 : P q < 0
        · rw [if_pos n1] at h0'; omega
        · rw [if_neg n1] at he'
          by_cases n2 : P q' < 0
          · rw [if_pos n2] at he'; omega
          · rw [if_neg n2] at he'
            exact hP.inj q q' hq hq' (z0 _) (z0 _) (by omega) (by omega)
    have h1 := hk.2 _ hQ
    have h2 : cntP P = cntP (fun q => if P q < 0 then -1 else P q + 1) := by
      refine cnt_congr fun q hq => ?_
      show decide (0 ≤ P q) = decide (0 ≤ (if P q < 0 then (-1 : Int) else P q + 1))
      split <;> (congr 1; apply propext; omega)
    omega
end
/-- the first i are done: whom each has, who is taken, how many more can be paired -/
structure GI (ns : List Nat) (K i u t : Nat) (l : List Int) : Prop where
  mx : IsMax (cutW ns i u) t
  ct : t + prd l i = K
  ll : l.length = i
  ok : ∀ m, m < i → pOk ns l m = true
  us : ∀ m, m < i → 0 ≤ l.getD m 0 → l.getD m 0 < 8 ∧ u.testBit (l.getD m 0).toNat = true
  u8 : u < 256
theorem GI.start {ns : List Nat} (hns : ∀ i, ns.getD i 0 < 256) {K : Nat} (h : IsMax ns K) : GI ns K 0 0 K [] :=
  ⟨h.of_nbr (by rw [cut_len]; omega) (fun a j => by rw [cut_nbr hns (by omega)]; simp), by simp [prd], rfl, fun m hm => by omega, fun m hm => by omega, by omega⟩
theorem getD_snocI (l : List Int) (v : Int) (m : Nat) (h : m < l.length) : (l ++ [v]).getD m 0 = l.getD m 0 := by
  rw [List.getD, List.getElem?_append_left h]; rfl
theorem prd_snoc (l : List Int) (v : Int) : ∀ k, k ≤ l.length → prd (l ++ [v]) k = prd l k
  | 0, _ => rfl
  | k + 1, h => by rw [prd, prd, prd_snoc l v k (by omega), getD_snocI l v k (by omega)]
theorem pOk_snoc {ns : List Nat} {l : List Int} (v : Int) {m : Nat} (h : m < l.length) : pOk ns (l ++ [v]) m = pOk ns l m := by
  unfold pOk
  rw [getD_snocI l v m h, List.take_append_of_le_length (by omega)]
theorem snoc_at (l : List Int) (v : Int) : (l ++ [v]).getD l.length 0 = v := by simp [List.getD]
theorem GI.left {ns : List Nat} {K i u t : Nat} {l : List Int} (h : GI ns K i u t l) (hm : IsMax (cutW ns (i + 1) u) t) : GI ns K (i + 1) u t (l ++ [-1]) := by
  have hll := h.ll
  refine ⟨hm, ?_, by simp [hll], fun m hm' => ?_, fun m hm' h0 => ?_, h.u8⟩
  · rw [prd, prd_snoc l _ i (by omega), ← hll, snoc_at, if_neg (by omega), hll]; exact h.ct
  · rcases Nat.lt_or_ge m i with h1 | h1
    · rw [pOk_snoc _ (by omega)]; exact h.ok m h1
    · obtain rfl : m = l.length := by omega
      unfold pOk; rw [snoc_at]; rfl
  · rcases Nat.lt_or_ge m i with h1 | h1
    · rw [getD_snocI l _ m (by omega)] at h0 ⊢; exact h.us m h1 h0
    · obtain rfl : m = l.length := by omega
      rw [snoc_at] at h0; omega
theorem GI.take {ns : List Nat} {K i u t j u' b : Nat} {l : List Int} (h : GI ns K i u t l) (hj8 : j < 8) (hj : nbr ns i j = true) (hju : u.testBit j = false) (hu' : u' < 256) (hp : plusB u u' j) (hb : IsMax (cutW ns (i + 1) u') b) (ht : 1 + b = t) : GI ns K (i + 1) u' b (l ++ [(j : Int)]) := by
  have hll := h.ll
  have old : ∀ m, m < i → l.getD m 0 ≠ (j : Int) := fun m hm e => by
    have := (h.us m hm (by omega)).2
    rw [e, Int.toNat_natCast, hju] at this; cases this
  refine ⟨hb, ?_, by simp [hll], fun m hm' => ?_, fun m hm' h0 => ?_, hu'⟩
  · rw [prd, prd_snoc l _ i (by omega), ← hll, snoc_at, if_pos (by omega), hll]; have := h.ct; omega
  · rcases Nat.lt_or_ge m i with h1 | h1
    · rw [pOk_snoc _ (by omega)]; exact h.ok m h1
    · obtain rfl : m = l.length := by omega
      unfold pOk
      rw [snoc_at, bitI_nat _ _ (by omega), hll]
      have e1 : (ns.getD i 0).testBit j = true := hj
      have e2 : hasB ((l ++ [(j : Int)]).take i) j = false := by
        rw [List.take_append_of_le_length (by omega), List.take_of_length_le (by omega)]
        unfold hasB
        rw [List.any_eq_false]
        intro y hy
        obtain ⟨m, hm, e⟩ := List.mem_iff_getElem.1 hy
        have := old m (by omega)
        simp only [beq_iff_eq]
        intro e'
        apply this
        simp [List.getD, hm, e, e']
      rw [e1, e2]; simp
  · rcases Nat.lt_or_ge m i with h1 | h1
    · rw [getD_snocI l _ m (by omega)] at h0 ⊢
      have := h.us m h1 h0
      exact ⟨this.1, by rw [hp, this.2]; rfl⟩
    · obtain rfl : m = l.length := by omega
      rw [snoc_at]
      exact ⟨by omega, by rw [Int.toNat_natCast, hp]; simp⟩
theorem GI.done {ns : List Nat} {K u t : Nat} {l : List Int} (h : GI ns K ns.length u t l) : Pg ns l ∧ prd l ns.length = K := by
  refine ⟨⟨h.ll, fun i hi => h.ok i (by rw [← h.ll]; exact hi)⟩, ?_⟩
  obtain ⟨⟨P, hP, hc⟩, _⟩ := h.mx
  have : cntP P ≤ cnt8 fun _ => false := cnt_mono fun j hj hp => by
    have := hP.rng j hj
    rw [cut_len] at this
    simp at hp
    omega
  have e : cnt8 (fun _ => false) = 0 := by decide
  have := h.ct
  omega
end Go.Proofs.YtepphkloghaihaaDoor
