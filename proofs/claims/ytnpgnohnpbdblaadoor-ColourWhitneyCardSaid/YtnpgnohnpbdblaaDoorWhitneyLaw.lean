/- How many colourings there are, as a count of lists. No program in sight. -/
import Derived.Test.YtnpgnohnpbdblaaDoorCountLaw
namespace Go.Proofs.YtnpgnohnpbdblaaDoor
open Go.RowKit

/-- all lists of d colours below k -/
def allK (k : Nat) : Nat → List (List Nat)
  | 0 => [[]]
  | d + 1 => (List.range k).flatMap fun c => (allK k d).map (c :: ·)
theorem mem_allK {k : Nat} : ∀ {d : Nat} {m : List Nat}, m ∈ allK k d ↔ m.length = d ∧ ∀ c ∈ m, c < k
  | 0, m => by
    simp only [allK, List.mem_singleton]
    constructor
    · rintro rfl; simp
    · rintro ⟨h, _⟩; exact List.eq_nil_of_length_eq_zero h
  | d + 1, m => by
    simp only [allK, List.mem_flatMap, List.mem_map, List.mem_range]
    constructor
    · rintro ⟨c, hc, m', hm, rfl⟩
      obtain ⟨h1, h2⟩ := mem_allK.1 hm
      exact ⟨by simp [h1], fun x hx => by
        rcases List.mem_cons.1 hx with rfl | hx
        · exact hc
        · exact h2 x hx⟩
    · rintro ⟨h1, h2⟩
      cases m with
      | nil => simp at h1
      | cons c m => exact ⟨c, h2 c List.mem_cons_self, m, mem_allK.2 ⟨by simpa using h1, fun x hx => h2 x (List.mem_cons_of_mem _ hx)⟩, rfl⟩
theorem nodup_allK (k : Nat) : ∀ d, (allK k d).Nodup
  | 0 => by simp [allK]
  | d + 1 => by
    rw [allK, List.Nodup, List.pairwise_flatMap]
    refine ⟨fun c _ => ?_, ?_⟩
    · rw [List.pairwise_map]
      exact (nodup_allK k d).imp fun h e => h (by simpa using e)
    · refine List.nodup_range.imp ?_
      intro a b hab x hx y hy e
      obtain ⟨m, _, rfl⟩ := List.mem_map.1 hx
      obtain ⟨m', _, rfl⟩ := List.mem_map.1 hy
      injection e with e1
      exact hab e1
/-- no two neighbours alike -/
def propL (ns : List Nat) (l : List Nat) : Bool := (List.range l.length).all fun i => (List.range l.length).all fun j => !nb ns i j || l.getD i 0 != l.getD j 0
theorem propL_iff {ns l : List Nat} : propL ns l = true ↔ ∀ i j, i < l.length → j < l.length → nb ns i j = true → l.getD i 0 ≠ l.getD j 0 := by
  unfold propL
  simp only [List.all_eq_true, List.mem_range, Bool.or_eq_true, Bool.not_eq_true', bne_iff_ne, ne_eq]
  exact ⟨fun h i j hi hj hn => (h i hi j hj).resolve_left (by rw [hn]; simp), fun h i hi j hj => by
    cases hn : nb ns i j
    · exact .inl rfl
    · exact .inr (h i j hi hj hn)⟩
/-- the first ones' colours -/
def preL (l : List Nat) : Nat → Int := fun j => if j < l.length then (l.getD j 0 : Nat) else -1
theorem preL_snoc (l : List Nat) (c : Nat) : updN (preL l) l.length (c : Int) = preL (l ++ [c]) := by
  funext j
  unfold updN preL
  rcases Nat.lt_trichotomy j l.length with h | h | h
  · rw [if_neg (by omega), if_pos h, if_pos (by simp; omega), List.getD, List.getD, List.getElem?_append_left h]
  · subst h
    rw [if_pos rfl, if_pos (by simp)]
    simp [List.getD]
  · rw [if_neg (by omega), if_neg (by omega), if_neg (by simp; omega)]
theorem Cnt_lists {ns : List Nat} {n k : Nat} (g : Gr n ns) (hk : k ≤ 12) : ∀ (d : Nat) (l : List Nat), l.length + d = n → (∀ c ∈ l, c < k) → propL ns l = true →
    Cnt ns k d l.length (preL l) = ((allK k d).filter fun m => propL ns (l ++ m)).length
  | 0, l, _, _, hp => by simp [Cnt, allK, hp]
  | d + 1, l, hd, hl, hp => by
    have hL : ∀ j, preL l j < 32 := fun j => by
      unfold preL
      split
      · rename_i h
        have := hl (l.getD j 0) (by rw [List.getD, List.getElem?_eq_getElem h]; exact List.getElem_mem _)
        omega
      · omega
    rw [Cnt_succ hL (by omega), allK, List.filter_flatMap, List.length_flatMap]
    refine map_sum_congr fun c hc => ?_
    have hc := List.mem_range.1 hc
    rw [List.filter_map, List.length_map]
    have e : ((fun m => propL ns (l ++ m)) ∘ fun x => c :: x) = fun m => propL ns ((l ++ [c]) ++ m) := by
      funext m; simp
    rw [e]
    cases ho : okc ns (preL l) l.length c
    · rw [if_neg (by simp)]
      refine (List.length_eq_zero_iff.2 (List.filter_eq_nil_iff.2 fun m _ h => ?_)).symm
      have : okc ns (preL l) l.length c = true := (okc_iff g).2 fun j hj => by
        unfold preL
        split
        · rename_i hjl
          have := propL_iff.1 h l.length j (by simp) (by simp; omega) hj
          rw [List.getD, List.getD, List.append_assoc, List.getElem?_append_right (Nat.le_refl _), List.getElem?_append_left hjl] at this
          simp at this
          intro e
          refine this ?_
          simp [List.getElem?_eq_getElem hjl] at e ⊢
          omega
        · omega
      rw [this] at ho; cases ho
    · rw [if_pos rfl, preL_snoc]
      have := Cnt_lists g hk d (l ++ [c]) (by simp; omega) (fun x hx => by
        rcases List.mem_append.1 hx with h | h
        · exact hl x h
        · obtain rfl : x = c := by simpa using h
          exact hc) (propL_iff.2 fun i j hi hj hn => by
        have hoc := (okc_iff g).1 ho
        have key : ∀ j, j < l.length → nb ns l.length j = true → l.getD j 0 ≠ c := fun j hj hn => by
          have := hoc j hn
          unfold preL at this
          rw [if_pos hj] at this
          omega
        have old : ∀ j, j < l.length → (l ++ [c]).getD j 0 = l.getD j 0 := fun j hj => by rw [List.getD, List.getD, List.getElem?_append_left hj]
        have new : (l ++ [c]).getD l.length 0 = c := by simp [List.getD]
        simp at hi hj
        rcases Nat.lt_or_ge i l.length with h1 | h1
        · rcases Nat.lt_or_ge j l.length with h2 | h2
          · rw [old i h1, old j h2]; exact propL_iff.1 hp i j h1 h2 hn
          · obtain rfl : j = l.length := by omega
            rw [old i h1, new]; exact key i h1 (g.ok _ _ hn).2.2.1
        · obtain rfl : i = l.length := by omega
          rcases Nat.lt_or_ge j l.length with h2 | h2
          · rw [old j h2, new]; exact fun e => key j h2 hn e.symm
          · obtain rfl : j = l.length := by omega
            exact absurd rfl (g.ok _ _ hn).2.2.2)
      simpa using this
theorem filter_split (l : List (List Nat)) (p q : List Nat → Bool) : (l.filter p).length = (l.filter fun m => p m && !q m).length + (l.filter fun m => p m && q m).length := by
  induction l with
  | nil => rfl
  | cons m l ih =>
    simp only [List.filter_cons]
    cases hp : p m <;> cases hq : q m <;> simp [ih] <;> omega
/-- where a node stands when b is one with a -/
def rnB (a b x : Nat) : Nat := let y := if x = b then a else x; if b < y then y - 1 else y
theorem rnB_lt {a b x n : Nat} (ha : a < n) (hb : b < n) (hab : a ≠ b) (hx : x < n) : rnB a b x < n - 1 := by
  unfold rnB
  simp only
  split <;> split <;> omega
/-- the lists in which a and b are alike are those without b -/
theorem erase_get {m : List Nat} {a b x : Nat} (hab : a ≠ b) (he : m.getD a 0 = m.getD b 0) : m.getD x 0 = (m.eraseIdx b).getD (rnB a b x) 0 := by
  unfold rnB
  simp only
  by_cases hxb : x = b
  · subst hxb
    rw [if_pos rfl, ← he]
    split
    · rw [List.getD, List.getD, List.getElem?_eraseIdx_of_ge (by omega), show a - 1 + 1 = a by omega]
    · rw [List.getD, List.getD, List.getElem?_eraseIdx_of_lt (by omega)]
  · rw [if_neg hxb]
    split
    · rw [List.getD, List.getD, List.getElem?_eraseIdx_of_ge (by omega), show x - 1 + 1 = x by omega]
    · rw [List.getD, List.getD, List.getElem?_eraseIdx_of_lt (by omega)]
/-- n1: without the edge; n2: with both its nodes in one -/
theorem merged_count {ns1 ns2 : List Nat} {n k a b : Nat} (g1 : Gr n ns1) (ha : a < n) (hb : b < n) (hab : a ≠ b)
    (h12 : ∀ x y, nb ns1 x y = true → nb ns2 (rnB a b x) (rnB a b y) = true) (h21 : ∀ i j, nb ns2 i j = true → ∃ x y, nb ns1 x y = true ∧ rnB a b x = i ∧ rnB a b y = j) :
    ((allK k n).filter fun m => propL ns1 m && m.getD a 0 == m.getD b 0).length = ((allK k (n - 1)).filter fun m => propL ns2 m).length := by
  have hlen : ∀ m : List Nat, m.length = n → (m.eraseIdx b).length = n - 1 := fun m hm => by rw [List.length_eraseIdx, if_pos (by omega), hm]
  have hpp : ∀ m : List Nat, m.length = n → m.getD a 0 = m.getD b 0 → (propL ns1 m = true ↔ propL ns2 (m.eraseIdx b) = true) := fun m hm he => by
    rw [propL_iff, propL_iff, hm, hlen m hm]
    constructor
    · intro h i j _ _ hn
      obtain ⟨x, y, hxy, rfl, rfl⟩ := h21 i j hn
      have o := g1.ok x y hxy
      rw [← erase_get hab he, ← erase_get hab he]
      exact h x y o.1 o.2.1 hxy
    · intro h x y hx hy hn
      rw [erase_get hab he, erase_get (x := y) hab he]
      exact h _ _ (rnB_lt ha hb hab hx) (rnB_lt ha hb hab hy) (h12 x y hn)
  rw [← List.length_map (f := fun m : List Nat => m.eraseIdx b)]
  refine List.Perm.length_eq ((List.perm_ext_iff_of_nodup ?_ ((nodup_allK k (n - 1)).filter _)).2 fun m' => ?_)
  · rw [List.Nodup, List.pairwise_map]
    refine List.Pairwise.imp_of_mem ?_ ((nodup_allK k n).filter _)
    intro m1 m2 h1 h2 hne e
    simp only [List.mem_filter, Bool.and_eq_true, beq_iff_eq] at h1 h2
    obtain ⟨l1, _⟩ := mem_allK.1 h1.1
    obtain ⟨l2, _⟩ := mem_allK.1 h2.1
    refine hne (List.ext_getElem (by omega) fun x hx1 hx2 => ?_)
    have e1 := erase_get (x := x) hab h1.2.2
    have e2 := erase_get (x := x) hab h2.2.2
    rw [e, ← e2] at e1
    simpa [List.getD, hx1, hx2] using e1
  · simp only [List.mem_map, List.mem_filter, Bool.and_eq_true, beq_iff_eq]
    constructor
    · rintro ⟨m, ⟨hm, hp, he⟩, rfl⟩
      obtain ⟨l1, lc⟩ := mem_allK.1 hm
      exact ⟨mem_allK.2 ⟨hlen m l1, fun c hc => lc c (List.mem_of_mem_eraseIdx hc)⟩, (hpp m l1 he).1 hp⟩
    · rintro ⟨hm, hp⟩
      obtain ⟨l1, lc⟩ := mem_allK.1 hm
      have hra := rnB_lt ha hb hab ha
      refine ⟨m'.insertIdx b (m'.getD (rnB a b a) 0), ?_, by rw [List.eraseIdx_insertIdx_self]⟩
      have hL : (m'.insertIdx b (m'.getD (rnB a b a) 0)).length = n := by rw [List.length_insertIdx, if_pos (by omega)]; omega
      have hgb : (m'.insertIdx b (m'.getD (rnB a b a) 0)).getD b 0 = m'.getD (rnB a b a) 0 := by
        rw [List.getD, List.getElem?_insertIdx_self, if_pos (by omega)]; rfl
      have hga : (m'.insertIdx b (m'.getD (rnB a b a) 0)).getD a 0 = m'.getD (rnB a b a) 0 := by
        unfold rnB
        simp only
        rw [if_neg hab]
        split
        · rw [List.getD, List.getElem?_insertIdx_of_gt (by omega)]; rfl
        · rw [List.getD, List.getElem?_insertIdx_of_lt (by omega)]; rfl
      have he := hga.trans hgb.symm
      refine ⟨mem_allK.2 ⟨hL, fun c hc => ?_⟩, ?_, he⟩
      · rcases (List.mem_insertIdx (by omega)).1 hc with rfl | hc
        · exact lc _ (by rw [List.getD, List.getElem?_eq_getElem (by omega)]; exact List.getElem_mem _)
        · exact lc c hc
      · exact (hpp _ hL he).2 (by rw [List.eraseIdx_insertIdx_self]; exact hp)
end Go.Proofs.YtnpgnohnpbdblaaDoor
