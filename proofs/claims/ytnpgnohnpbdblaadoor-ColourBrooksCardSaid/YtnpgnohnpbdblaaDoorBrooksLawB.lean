/- Brooks: two colours; what is linked; counting. No program in sight. -/
import Derived.Test.YtnpgnohnpbdblaaDoorBrooksLaw
import Derived.Test.YtnpgnohnpbdblaaDoorStanLaw
namespace Go.Proofs.YtnpgnohnpbdblaaDoor

section
variable {N : Nat} {nb : Nat → Nat → Bool}
theorem Ch.get : ∀ {l : List Nat}, Ch nb l → ∀ i x y, l[i]? = some x → l[i + 1]? = some y → nb x y = true
  | [], _, i, x, y, hx, _ => by simp at hx
  | a :: l, h, 0, x, y, hx, hy => by
    have hx : a = x := by simpa using hx
    rw [← hx]
    refine h.1 y ?_
    cases l with
    | nil => simp at hy
    | cons b l => simpa using hy
  | a :: l, h, i + 1, x, y, hx, hy => Ch.get h.2 i x y (by simpa using hx) (by simpa using hy)
theorem idx_of {l : List Nat} {x : Nat} (h : x ∈ l) : ∃ i, l[i]? = some x ∧ i < l.length ∧ l.idxOf x = i := by
  have hlt := List.idxOf_lt_length_of_mem h
  exact ⟨_, by rw [List.getElem?_eq_getElem hlt, List.getElem_idxOf], hlt, rfl⟩
theorem idx_eq {l : List Nat} (hn : l.Nodup) {x i : Nat} (h : l[i]? = some x) : l.idxOf x = i := by
  have hm := List.mem_of_getElem? h
  obtain ⟨j, h1, h2, h3⟩ := idx_of hm
  rw [h3]
  exact (List.getElem?_inj h2 hn).1 (by rw [h1, h])
theorem two_only {l : List Nat} {a b h : Nat} (hl : l.length ≤ 2) (ha : a ∈ l) (hb : b ∈ l) (hab : a ≠ b) (hh : h ∈ l) : h = a ∨ h = b := by
  match l, hl with
  | [], _ => cases ha
  | [p], _ =>
    simp at ha hb
    exact absurd (ha.trans hb.symm) hab
  | [p, q], _ =>
    simp at ha hb hh
    omega
  | _ :: _ :: _ :: _, hl => simp at hl
/-- with two edges at most each, and no odd ring, two colours are enough -/
theorem brooks2 (g : GB N nb) (hd : ∀ i, (nbs N nb i).length ≤ 2) : ∀ (n : Nat) (W : Nat → Bool), szW N W ≤ n → (∀ i, W i = true → i < N) →
    (∀ C : List Nat, C.Nodup → C ≠ [] → (∀ x ∈ C, W x = true) → (∀ x ∈ C, ∀ y, nb x y = true → y ∈ C) → (∀ x ∈ C, (nbs N nb x).length = 2) → C.length % 2 = 0) → ∃ c, PC nb 2 W c := by
  intro n
  induction n with
  | zero =>
    intro W hn hWN _
    have h0 : ∀ i, W i = false := fun i => by
      cases h : W i
      · rfl
      · have := szW_lt (N := N) (W := W) (W' := fun _ => false) (fun _ h => by cases h) (hWN i h) h rfl
        omega
    exact ⟨fun _ => 0, (fun i hi => by rw [h0] at hi; cases hi), (fun i _ hi => by rw [h0] at hi; cases hi)⟩
  | succ n ih =>
    intro W hn hWN hev
    have sub : ∀ W' : Nat → Bool, (∀ i, W' i = true → W i = true) → (∃ u, W u = true ∧ W' u = false) → ∃ c, PC nb 2 W' c := fun W' h ⟨u, h1, h2⟩ =>
      ih W' (by have := szW_lt (N := N) h (hWN u h1) h1 h2; omega) (fun i hi => hWN i (h i hi)) fun C a b d => hev C a b fun x hx => h x (d x hx)
    by_cases hemp : ∃ v, W v = true
    · obtain ⟨v, hv⟩ := hemp
      by_cases hless : ∃ v, W v = true ∧ ((nbs N nb v).filter W).length < 2
      · obtain ⟨v, hv, hlt⟩ := hless
        obtain ⟨c, hc⟩ := sub (fun i => W i && !decide (i = v)) (fun i hi => by simp at hi; exact hi.1) ⟨v, hv, by simp⟩
        have hle : ((nbs N nb v).filter fun i => W i && !decide (i = v)).length ≤ ((nbs N nb v).filter W).length := by
          rw [← List.countP_eq_length_filter, ← List.countP_eq_length_filter]
          exact List.countP_mono_left fun a _ ha => by simp at ha; exact ha.1
        obtain ⟨x, hx⟩ := color_less g hc (u := v) (by simp) (by omega)
        exact ⟨_, hx.congr fun i hi => by unfold addW; by_cases e : i = v <;> simp [e, hi]⟩
      · have hreg : ∀ v, W v = true → ((nbs N nb v).filter W).length = 2 := fun v hv => by
          have h1 : ¬ ((nbs N nb v).filter W).length < 2 := fun h => hless ⟨v, hv, h⟩
          have h2 := List.length_filter_le W (nbs N nb v)
          have := hd v
          omega
        have hclW : ∀ v z, W v = true → nb v z = true → W z = true := fun v z hv hz => by
          cases h : W z
          · have h1 := filt_lt W ((mem_nbs g).2 hz) h
            have := hreg v hv
            have := hd v
            omega
          · rfl
        have hdeg : ∀ v, W v = true → (nbs N nb v).length = 2 := fun v hv => by
          have h1 := hreg v hv
          have h2 := List.length_filter_le W (nbs N nb v)
          have := hd v
          omega
        obtain ⟨Q, e, _, _, hch, hnd, hPW, hend⟩ := long_row (nb := nb) W hWN N [] v (by omega) ⟨fun z hz => (by cases hz), trivial⟩ (by simp) (fun z hz => by
          have hz : z = v := by simpa using hz
          rw [hz]; exact hv)
        have heW : W e = true := hPW e (by simp)
        have hex : ∃ f ∈ Q ++ [e], nb e f = true := by
          have h1 := hreg e heW
          obtain ⟨f, hf⟩ : ∃ f, f ∈ (nbs N nb e).filter W := by
            cases hl : (nbs N nb e).filter W with
            | nil => rw [hl] at h1; simp at h1
            | cons a l => exact ⟨a, by simp⟩
          rw [List.mem_filter] at hf
          have := (mem_nbs g).1 hf.1
          exact ⟨f, hend f hf.2 this, this⟩
        obtain ⟨Pre, f, Post, hsplit, hef, hpre⟩ := first_with (fun z => nb e z = true) _ hex
        have hfe : f ≠ e := fun h => by rw [h, g.irr] at hef; cases hef
        obtain ⟨Cm, hCm⟩ : ∃ Cm, f :: Post = (f :: Cm) ++ [e] := by
          have hl : (Pre ++ f :: Post).getLast? = some e := by rw [← hsplit]; simp
          rcases List.eq_nil_or_concat Post with rfl | ⟨Cm, z, rfl⟩
          · simp at hl; exact absurd hl hfe
          · refine ⟨Cm, ?_⟩
            have : z = e := by
              rw [List.concat_eq_append, ← List.cons_append, ← List.append_assoc, List.getLast?_append] at hl
              simpa using hl
            rw [this]; simp
        rw [hCm] at hsplit
        generalize hCy : (f :: Cm) ++ [e] = Cy at *
        have hchC : Ch nb Cy := by rw [hsplit] at hch; exact hch.app.2
        have hndC : Cy.Nodup := by rw [hsplit] at hnd; exact (List.nodup_append.1 hnd).2.1
        have hCW : ∀ z ∈ Cy, W z = true := fun z hz => hPW z (by rw [hsplit]; exact List.mem_append_right _ hz)
        have hendC : ∀ z, W z = true → nb e z = true → z ∈ Cy := fun z h1 h2 => by
          have := hend z h1 h2
          rw [hsplit] at this
          rcases List.mem_append.1 this with h3 | h3
          · exact absurd h2 (hpre z h3)
          · exact h3
        have hfC : f ∈ Cy := by rw [← hCy]; simp
        obtain ⟨m, hm⟩ : ∃ m, Cy.length = m := ⟨_, rfl⟩
        have h0f : Cy[0]? = some f := by rw [← hCy]; simp
        have hle : Cy[m - 1]? = some e := by
          rw [← hm, ← List.getLast?_eq_getElem?, ← hCy, List.getLast?_append]; rfl
        have hm3 : 3 ≤ m := by
          have h1 := ((nbs_nodup N nb e).sublist List.filter_sublist (l₁ := (nbs N nb e).filter W))
          have h2 : (e :: (nbs N nb e).filter W).Nodup := by
            rw [List.nodup_cons]
            refine ⟨fun h => ?_, h1⟩
            have := (mem_nbs g).1 (List.mem_filter.1 h).1
            rw [g.irr] at this; cases this
          have h3 := h2.length_le_of_subset (l₂ := Cy) fun z hz => by
            rcases List.mem_cons.1 hz with rfl | hz
            · exact List.mem_of_getElem? hle
            · rw [List.mem_filter] at hz
              exact hendC z hz.2 ((mem_nbs g).1 hz.1)
          rw [List.length_cons, hreg e heW] at h3
          omega
        -- the two neighbours
        have htwo : ∀ i q h, Cy[i]? = some q → nb q h = true → ∃ j, Cy[j]? = some h ∧ (j = i + 1 ∨ i = j + 1 ∨ (i = 0 ∧ j = m - 1) ∨ (i = m - 1 ∧ j = 0)) := by
          intro i q h hq hn
          have hi : i < m := by rw [← hm]; exact (List.getElem?_eq_some_iff.1 hq).1
          have hqW := hCW q (List.mem_of_getElem? hq)
          have get : ∀ j, j < m → ∃ y, Cy[j]? = some y := fun j hj => ⟨Cy[j]'(by omega), List.getElem?_eq_getElem (by omega)⟩
          obtain ⟨a, ja, ha, hja, hna⟩ : ∃ a j, Cy[j]? = some a ∧ (j = i + 1 ∨ (i = m - 1 ∧ j = 0)) ∧ nb q a = true := by
            by_cases h1 : i + 1 < m
            · obtain ⟨y, hy⟩ := get (i + 1) h1
              exact ⟨y, i + 1, hy, .inl rfl, hchC.get i q y hq hy⟩
            · refine ⟨f, 0, h0f, .inr ⟨by omega, rfl⟩, ?_⟩
              rw [show i = m - 1 by omega, hle] at hq
              injection hq with hq
              rw [← hq]; exact hef
          obtain ⟨b, jb, hb, hjb, hnb⟩ : ∃ b j, Cy[j]? = some b ∧ (i = j + 1 ∨ (i = 0 ∧ j = m - 1)) ∧ nb q b = true := by
            by_cases h1 : 0 < i
            · obtain ⟨y, hy⟩ := get (i - 1) (by omega)
              refine ⟨y, i - 1, hy, .inl (by omega), g.sym _ _ (hchC.get (i - 1) y q hy (by rw [show i - 1 + 1 = i by omega]; exact hq))⟩
            · refine ⟨e, m - 1, hle, .inr ⟨by omega, rfl⟩, ?_⟩
              rw [show i = 0 by omega, h0f] at hq
              injection hq with hq
              rw [← hq]; exact g.sym _ _ hef
          have hab : a ≠ b := fun he => by
            rw [he] at ha
            have := (List.getElem?_inj (i := ja) (j := jb) (List.getElem?_eq_some_iff.1 ha).1 hndC).1 (by rw [ha, hb])
            omega
          rcases two_only (hd q) ((mem_nbs g).2 hna) ((mem_nbs g).2 hnb) hab ((mem_nbs g).2 hn) with rfl | rfl
          · exact ⟨ja, ha, by omega⟩
          · exact ⟨jb, hb, by omega⟩
        have hclC : ∀ x ∈ Cy, ∀ y, nb x y = true → y ∈ Cy := fun x hx y hn => by
          obtain ⟨i, hi, _⟩ := idx_of hx
          obtain ⟨j, hj, _⟩ := htwo i x y hi hn
          exact List.mem_of_getElem? hj
        have hmev := hev Cy hndC (fun h => by rw [h] at hfC; cases hfC) hCW hclC fun x hx => hdeg x (hCW x hx)
        rw [hm] at hmev
        obtain ⟨cO, hcO⟩ := sub (fun i => W i && !decide (i ∈ Cy)) (fun i hi => by simp at hi; exact hi.1) ⟨f, hCW f hfC, by simp [hfC]⟩
        have hcI : PC nb 2 (fun i => decide (i ∈ Cy)) (fun i => Cy.idxOf i % 2) := ⟨fun i _ => by dsimp only; omega, fun i j hi _ hn => by
          simp only [decide_eq_true_eq] at hi
          obtain ⟨a, ha, ham, hia⟩ := idx_of hi
          obtain ⟨b, hb, hab⟩ := htwo a i j ha hn
          have hjb := idx_eq hndC hb
          dsimp only
          rw [hia, hjb]
          omega⟩
        exact ⟨_, hcI.union hcO (W := W) (fun i hi => by by_cases h : i ∈ Cy <;> simp [h, hi]) (fun i j hi hj hij => by
          simp only [decide_eq_true_eq] at hi
          simp only [Bool.and_eq_true, Bool.not_eq_true', decide_eq_false_iff_not] at hj
          cases h : nb i j
          · rfl
          · exact absurd (hclC i hi j h) hj.2) g.sym⟩
    · exact ⟨fun _ => 0, fun i hi => absurd ⟨i, hi⟩ hemp, fun i _ hi => absurd ⟨i, hi⟩ hemp⟩
/-- one more than the most edges is always enough -/
theorem color_all {D : Nat} (g : GB N nb) (hd : ∀ i, (nbs N nb i).length < D) : ∀ n, ∃ c, PC nb D (fun i => decide (i < n)) c
  | 0 => ⟨fun _ => 0, (fun i hi => by simp at hi), (fun i _ hi => by simp at hi)⟩
  | n + 1 => by
    obtain ⟨c, hc⟩ := color_all g hd n
    obtain ⟨x, hx⟩ := color_less g hc (u := n) (by simp) (Nat.lt_of_le_of_lt (List.length_filter_le _ _) (hd n))
    exact ⟨_, hx.congr fun i hi => by
      unfold addW
      simp only [decide_eq_true_eq] at hi
      by_cases e : i = n
      · simp [e]
      · simp [show i < n by omega]⟩
theorem nbs_len (N : Nat) (nb : Nat → Nat → Bool) (i : Nat) : ((nbs N nb i).length : Int) = sq N fun j => if nb i j = true then 1 else 0 := by
  unfold nbs
  induction N with
  | zero => rfl
  | succ n ih =>
    rw [sq, ← ih, List.range_succ, List.filter_append, List.length_append]
    by_cases h : nb i n = true
    · simp [h]
    · simp [h]
/-- a ring of all that has two sides is even -/
theorem even_of_two (g : GB N nb) (h2 : ∀ i, i < N → (nbs N nb i).length = 2) {c : Nat → Nat} (hc : PC nb 2 (fun i => decide (i < N)) c) : N % 2 = 0 := by
  have hcol : ∀ i j, nb i j = true → (c i = 0 ↔ c j = 1) := fun i j hn => by
    obtain ⟨hi, hj⟩ := g.rg i j hn
    have h1 := hc.1 i (by simpa using hi)
    have h3 := hc.1 j (by simpa using hj)
    have h4 := hc.2 i j (by simpa using hi) (by simpa using hj) hn
    omega
  have e1 : (sq N fun i => sq N fun j => if c i = 0 ∧ nb i j = true then 1 else 0) = sq N fun i => 2 * (if c i = 0 then 1 else 0) := sq_congr fun i hi => by
    by_cases h : c i = 0
    · rw [if_pos h, sq_congr (h := fun j => if nb i j = true then 1 else 0) fun j _ => by simp [h], ← nbs_len, h2 i hi]; rfl
    · rw [if_neg h, sq_congr (h := fun _ => 0) fun j _ => if_neg fun hh => h hh.1, sq_zero]; rfl
  have e2 : (sq N fun i => sq N fun j => if c i = 0 ∧ nb i j = true then 1 else 0) = sq N fun j => 2 * (if c j = 1 then 1 else 0) := by
    rw [sq_swap]
    refine sq_congr fun j hj => ?_
    by_cases h : c j = 1
    · rw [if_pos h, sq_congr (h := fun i => if nb j i = true then 1 else 0) fun i _ => ?_, ← nbs_len, h2 j hj]
      · rfl
      · by_cases hn : nb i j = true
        · rw [if_pos ⟨(hcol i j hn).2 h, hn⟩, if_pos (g.sym _ _ hn)]
        · rw [if_neg fun hh => hn hh.2, if_neg fun hh => hn (g.sym _ _ hh)]
    · rw [if_neg h, sq_congr (h := fun _ => 0) fun i _ => if_neg fun hh => h ((hcol i j hh.2).1 hh.1), sq_zero]; rfl
  have e3 : (sq N fun i => (if c i = 0 then 1 else 0) + (if c i = 1 then 1 else 0)) = (N : Int) := by
    rw [sq_congr (h := fun _ => 1) fun i hi => ?_]
    · have : ∀ n : Nat, sq n (fun _ => 1) = (n : Int) := fun n => by
        induction n with
        | zero => rfl
        | succ n ih => rw [sq, ih]; omega
      exact this N
    · have := hc.1 i (by simpa using hi)
      have : c i = 0 ∨ c i = 1 := by omega
      rcases this with h | h <;> rw [h] <;> rfl
  rw [e1] at e2
  rw [sq_mul, sq_mul] at e2
  rw [sq_add] at e3
  omega
/-- all with each other: as many colours as nodes -/
theorem full_cols {k : Nat} {c : Nat → Nat} (hall : ∀ i j, i < N → j < N → i ≠ j → nb i j = true) (hc : PC nb k (fun i => decide (i < N)) c) : N ≤ k := by
  have hn : ((List.range N).map c).Nodup := by
    refine nodup_map_on (fun a ha b hb e => ?_) List.nodup_range
    rw [List.mem_range] at ha hb
    refine Classical.byContradiction fun hne => ?_
    exact hc.2 a b (by simpa using ha) (by simpa using hb) (hall a b ha hb hne) e
  have := hn.length_le_of_subset (l₂ := List.range k) fun x hx => by
    obtain ⟨i, hi, rfl⟩ := List.mem_map.1 hx
    rw [List.mem_range] at hi ⊢
    exact hc.1 i (by simpa using hi)
  simpa using this
/-- where each has an edge with all others -/
theorem full_of (g : GB N nb) (h : ∀ i, i < N → (nbs N nb i).length = N - 1) : ∀ i j, i < N → j < N → i ≠ j → nb i j = true := fun i j hi hj hne => by
  cases hn : nb i j
  · exfalso
    have h1 : (i :: j :: nbs N nb i).Nodup := by
      rw [List.nodup_cons, List.nodup_cons]
      refine ⟨fun hm => ?_, fun hm => ?_, nbs_nodup N nb i⟩
      · rcases List.mem_cons.1 hm with h2 | h2
        · exact hne h2
        · have := (mem_nbs g).1 h2
          rw [g.irr] at this; cases this
      · have := (mem_nbs g).1 hm
        rw [hn] at this; cases this
    have h2 := h1.length_le_of_subset (l₂ := List.range N) fun x hx => by
      rw [List.mem_range]
      rcases List.mem_cons.1 hx with rfl | hx
      · exact hi
      · rcases List.mem_cons.1 hx with rfl | hx
        · exact hj
        · exact (g.rg _ _ ((mem_nbs g).1 hx)).2
    simp only [List.length_cons, List.length_range, h i hi] at h2
    omega
  · rfl
theorem nbs_le (g : GB N nb) (i : Nat) (hi : i < N) : (nbs N nb i).length ≤ N - 1 := by
  have h1 : (i :: nbs N nb i).Nodup := by
    rw [List.nodup_cons]
    refine ⟨fun hm => ?_, nbs_nodup N nb i⟩
    have := (mem_nbs g).1 hm
    rw [g.irr] at this; cases this
  have h2 := h1.length_le_of_subset (l₂ := List.range N) fun x hx => by
    rw [List.mem_range]
    rcases List.mem_cons.1 hx with rfl | hx
    · exact hi
    · exact (g.rg _ _ ((mem_nbs g).1 hx)).2
  simp only [List.length_cons, List.length_range] at h2
  omega
end
end Go.Proofs.YtnpgnohnpbdblaaDoor
