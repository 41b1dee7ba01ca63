/- Brooks' theorem. No program in sight. -/
import Derived.Test.YtnpgnohnpbdblaaDoorBase
namespace Go.Proofs.YtnpgnohnpbdblaaDoor

structure GB (N : Nat) (nb : Nat → Nat → Bool) : Prop where
  sym : ∀ i j, nb i j = true → nb j i = true
  irr : ∀ i, nb i i = false
  rg : ∀ i j, nb i j = true → i < N ∧ j < N
def nbs (N : Nat) (nb : Nat → Nat → Bool) (i : Nat) : List Nat := (List.range N).filter (nb i)
theorem nbs_nodup (N : Nat) (nb : Nat → Nat → Bool) (i : Nat) : (nbs N nb i).Nodup := List.nodup_range.sublist List.filter_sublist
/-- those in W have colours below D, and no two with an edge the same -/
def PC (nb : Nat → Nat → Bool) (D : Nat) (W : Nat → Bool) (c : Nat → Nat) : Prop := (∀ i, W i = true → c i < D) ∧ ∀ i j, W i = true → W j = true → nb i j = true → c i ≠ c j
def addW (W : Nat → Bool) (u : Nat) : Nat → Bool := fun i => decide (i = u) || W i
def setC (c : Nat → Nat) (u x : Nat) : Nat → Nat := fun i => if i = u then x else c i
theorem setC_same (c : Nat → Nat) (u x : Nat) : setC c u x u = x := if_pos rfl
theorem setC_other (c : Nat → Nat) {u i : Nat} (x : Nat) (h : i ≠ u) : setC c u x i = c i := if_neg h
theorem free_col (D : Nat) (L : List Nat) (h : L.length < D) : ∃ x, x < D ∧ x ∉ L := by
  refine Classical.byContradiction fun hn => ?_
  have := List.nodup_range.length_le_of_subset (l₂ := L) (l₁ := List.range D) fun x hx => Classical.byContradiction fun hx2 => hn ⟨x, List.mem_range.1 hx, hx2⟩
  rw [List.length_range] at this; omega
theorem filt_lt {α : Type} (p : α → Bool) : ∀ {l : List α} {z : α}, z ∈ l → p z = false → (l.filter p).length < l.length
  | a :: l, z, hz, hp => by
    rcases List.mem_cons.1 hz with rfl | hz
    · rw [List.filter_cons_of_neg (by simp [hp]), List.length_cons]
      have := List.length_filter_le p l
      omega
    · have := filt_lt p hz hp
      by_cases ha : p a = true
      · rw [List.filter_cons_of_pos ha, List.length_cons, List.length_cons]; omega
      · rw [List.filter_cons_of_neg ha, List.length_cons]; omega
section
variable {N D : Nat} {nb : Nat → Nat → Bool}
theorem mem_nbs (g : GB N nb) {i j : Nat} : j ∈ nbs N nb i ↔ nb i j = true := by
  unfold nbs
  rw [List.mem_filter, List.mem_range]
  exact ⟨fun h => h.2, fun h => ⟨(g.rg i j h).2, h⟩⟩
/-- one more has a colour, when those of its neighbours are few -/
theorem color_by (g : GB N nb) {W : Nat → Bool} {c : Nat → Nat} (hc : PC nb D W c) {u : Nat} (hu : W u = false) (L : List Nat) (hL : ∀ j, W j = true → nb u j = true → c j ∈ L) (hlt : L.length < D) :
    ∃ x, PC nb D (addW W u) (setC c u x) := by
  obtain ⟨x, hx, hxL⟩ := free_col D L hlt
  have hne : ∀ j, W j = true → j ≠ u := fun j hj e => by rw [e, hu] at hj; cases hj
  refine ⟨x, fun i hi => ?_, fun i j hi hj hn => ?_⟩
  · unfold addW at hi
    by_cases e : i = u
    · rw [e, setC_same]; exact hx
    · rw [setC_other _ _ e]
      exact hc.1 i (by simpa [e] using hi)
  · unfold addW at hi hj
    by_cases e : i = u
    · by_cases e2 : j = u
      · rw [e, e2, g.irr] at hn; cases hn
      · have hjW : W j = true := by simpa [e2] using hj
        rw [e, setC_same, setC_other _ _ e2]
        intro he
        rw [e] at hn
        exact hxL (he ▸ hL j hjW hn)
    · have hiW : W i = true := by simpa [e] using hi
      by_cases e2 : j = u
      · rw [e2, setC_same, setC_other _ _ e]
        intro he
        rw [e2] at hn
        exact hxL (he ▸ hL i hiW (g.sym _ _ hn))
      · have hjW : W j = true := by simpa [e2] using hj
        rw [setC_other _ _ e, setC_other _ _ e2]
        exact hc.2 i j hiW hjW hn
/-- one more, which has fewer neighbours there than colours -/
theorem color_less (g : GB N nb) {W : Nat → Bool} {c : Nat → Nat} (hc : PC nb D W c) {u : Nat} (hu : W u = false) (hlt : ((nbs N nb u).filter W).length < D) : ∃ x, PC nb D (addW W u) (setC c u x) :=
  color_by g hc hu (((nbs N nb u).filter W).map c) (fun j hj hn => List.mem_map.2 ⟨j, List.mem_filter.2 ⟨(mem_nbs g).2 hn, hj⟩, rfl⟩) (by rw [List.length_map]; exact hlt)
/-- one more, which has a neighbour without a colour -/
theorem color_unc (g : GB N nb) (hd : ∀ i, (nbs N nb i).length ≤ D) {W : Nat → Bool} {c : Nat → Nat} (hc : PC nb D W c) {u z : Nat} (hu : W u = false) (hz : nb u z = true) (hzW : W z = false) : ∃ x, PC nb D (addW W u) (setC c u x) :=
  color_less g hc hu (Nat.lt_of_lt_of_le (filt_lt W ((mem_nbs g).2 hz) hzW) (hd u))
/-- one more, two of whose neighbours are alike -/
theorem color_two (g : GB N nb) (hd : ∀ i, (nbs N nb i).length ≤ D) {W : Nat → Bool} {c : Nat → Nat} (hc : PC nb D W c) {u x y : Nat} (hu : W u = false) (hx : nb u x = true) (hy : nb u y = true) (hxW : W x = true) (hne : x ≠ y) (he : c x = c y) : ∃ z, PC nb D (addW W u) (setC c u z) := by
  refine color_by g hc hu (((nbs N nb u).filter fun j => W j && !decide (j = y)).map c) (fun j hj hn => ?_) ?_
  · by_cases e : j = y
    · rw [e, ← he]
      exact List.mem_map.2 ⟨x, List.mem_filter.2 ⟨(mem_nbs g).2 hx, by simp [hxW, hne]⟩, rfl⟩
    · exact List.mem_map.2 ⟨j, List.mem_filter.2 ⟨(mem_nbs g).2 hn, by simp [hj, e]⟩, rfl⟩
  · rw [List.length_map]
    exact Nat.lt_of_lt_of_le (filt_lt _ ((mem_nbs g).2 hy) (by simp)) (hd u)
def addL (W : Nat → Bool) : List Nat → Nat → Bool
  | [] => W
  | u :: L => addL (addW W u) L
theorem addL_iff (i : Nat) : ∀ (L : List Nat) (W : Nat → Bool), addL W L i = true ↔ i ∈ L ∨ W i = true
  | [], W => by simp [addL]
  | u :: L, W => by
    rw [addL, addL_iff i L]
    unfold addW
    simp only [Bool.or_eq_true, decide_eq_true_eq, List.mem_cons]
    constructor
    · rintro (h | h | h)
      · exact .inl (.inr h)
      · exact .inl (.inl h)
      · exact .inr h
    · rintro ((h | h) | h)
      · exact .inr (.inl h)
      · exact .inl h
      · exact .inr (.inr h)
/-- each has a neighbour without a colour when its turn comes -/
def OKL (nb : Nat → Nat → Bool) (W : Nat → Bool) : List Nat → Prop
  | [] => True
  | u :: L => W u = false ∧ (∃ z, nb u z = true ∧ W z = false) ∧ OKL nb (addW W u) L
theorem color_list (g : GB N nb) (hd : ∀ i, (nbs N nb i).length ≤ D) : ∀ (L : List Nat) {W : Nat → Bool} {c : Nat → Nat}, PC nb D W c → OKL nb W L → ∃ c', PC nb D (addL W L) c' ∧ ∀ i, W i = true → c' i = c i
  | [], W, c, hc, _ => ⟨c, hc, fun _ _ => rfl⟩
  | u :: L, W, c, hc, ⟨hu, ⟨z, hz, hzW⟩, hL⟩ => by
    obtain ⟨x, hx⟩ := color_unc g hd hc hu hz hzW
    obtain ⟨c', h1, h2⟩ := color_list g hd L hx hL
    refine ⟨c', h1, fun i hi => ?_⟩
    have hne : i ≠ u := fun e => by rw [e, hu] at hi; cases hi
    rw [h2 i (by unfold addW; rw [hi]; simp), setC_other _ _ hne]
/-- a row along edges -/
def Ch (nb : Nat → Nat → Bool) : List Nat → Prop
  | [] => True
  | x :: l => (∀ y, l.head? = some y → nb x y = true) ∧ Ch nb l
theorem Ch.app : ∀ {l₁ l₂ : List Nat}, Ch nb (l₁ ++ l₂) → Ch nb l₁ ∧ Ch nb l₂
  | [], _, h => ⟨trivial, h⟩
  | x :: l₁, l₂, h => by
    obtain ⟨h1, h2⟩ := Ch.app (show Ch nb (l₁ ++ l₂) from h.2)
    refine ⟨⟨fun y hy => h.1 y ?_, h1⟩, h2⟩
    cases l₁ with
    | nil => cases hy
    | cons a l => exact hy
theorem Ch.join : ∀ {l₁ l₂ : List Nat}, Ch nb l₁ → Ch nb l₂ → (∀ x y, l₁.getLast? = some x → l₂.head? = some y → nb x y = true) → Ch nb (l₁ ++ l₂)
  | [], _, _, h2, _ => h2
  | [x], l₂, _, h2, h3 => ⟨fun y hy => h3 x y rfl hy, h2⟩
  | x :: a :: l₁, l₂, h1, h2, h3 => ⟨fun y hy => h1.1 y hy, Ch.join (l₁ := a :: l₁) h1.2 h2 fun u v hu hv => h3 u v (by rw [List.getLast?_cons_cons]; exact hu) hv⟩
theorem Ch.rev (g : GB N nb) : ∀ {l : List Nat}, Ch nb l → Ch nb l.reverse
  | [], _ => trivial
  | x :: l, h => by
    rw [List.reverse_cons]
    refine Ch.join (Ch.rev g h.2) ⟨fun y hy => (by cases hy), trivial⟩ fun u v hu hv => ?_
    rw [List.getLast?_reverse] at hu
    have hv : x = v := by simpa using hv
    rw [← hv]
    exact g.sym _ _ (h.1 u hu)
/-- a row to one without a colour -/
theorem okl_row : ∀ (M : List Nat) (W : Nat → Bool) (z : Nat), Ch nb (M ++ [z]) → (M ++ [z]).Nodup → (∀ x ∈ M ++ [z], W x = false) → OKL nb W M
  | [], _, _, _, _, _ => trivial
  | u :: M, W, z, hc, hn, hW => by
    rw [List.cons_append, List.nodup_cons] at hn
    obtain ⟨y, hy⟩ : ∃ y, (M ++ [z]).head? = some y := by
      cases M with
      | nil => exact ⟨z, rfl⟩
      | cons a M => exact ⟨a, rfl⟩
    have hym : y ∈ M ++ [z] := List.mem_of_mem_head? hy
    refine ⟨hW u (by simp), ⟨y, hc.1 y hy, hW y (List.mem_cons_of_mem _ hym)⟩, okl_row M (addW W u) z hc.2 hn.2 fun x hx => ?_⟩
    unfold addW
    have : x ≠ u := fun e => hn.1 (e ▸ hx)
    rw [hW x (List.mem_cons_of_mem _ hx)]
    simp [this]
theorem okl_app : ∀ (L M : List Nat) (W : Nat → Bool), OKL nb W L → OKL nb (addL W L) M → OKL nb W (L ++ M)
  | [], _, _, _, h => h
  | _ :: L, M, _, ⟨h1, h2, h3⟩, h => ⟨h1, h2, okl_app L M _ h3 h⟩
theorem PC.congr {W W' : Nat → Bool} {c : Nat → Nat} (h : PC nb D W c) (hW : ∀ i, W' i = true → W i = true) : PC nb D W' c :=
  ⟨fun i hi => h.1 i (hW i hi), fun i j hi hj hn => h.2 i j (hW i hi) (hW j hj) hn⟩
/-- two sets without an edge between them -/
theorem PC.union {W A B : Nat → Bool} {c d : Nat → Nat} (hc : PC nb D A c) (hd : PC nb D B d) (hW : ∀ i, W i = true → A i = true ∨ B i = true) (hno : ∀ i j, A i = true → B j = true → A j = false → nb i j = false) (hsym : ∀ i j, nb i j = true → nb j i = true) : PC nb D W fun i => if A i = true then c i else d i := by
  refine ⟨fun i hi => ?_, fun i j hi hj hn => ?_⟩
  · dsimp only
    by_cases h : A i = true
    · rw [if_pos h]; exact hc.1 i h
    · rw [if_neg h]; exact hd.1 i ((hW i hi).resolve_left h)
  · dsimp only
    by_cases h : A i = true
    · by_cases h2 : A j = true
      · rw [if_pos h, if_pos h2]; exact hc.2 i j h h2 hn
      · rw [hno i j h ((hW j hj).resolve_left h2) (by simpa using h2)] at hn; cases hn
    · by_cases h2 : A j = true
      · have := hno j i h2 ((hW i hi).resolve_left h) (by simpa using h)
        rw [hsym i j hn] at this; cases this
      · rw [if_neg h, if_neg h2]; exact hd.2 i j ((hW i hi).resolve_left h) ((hW j hj).resolve_left h2) hn
def szW (N : Nat) (W : Nat → Bool) : Nat := (List.range N).countP W
theorem szW_lt {W W' : Nat → Bool} (h : ∀ i, W' i = true → W i = true) {u : Nat} (hu : u < N) (h1 : W u = true) (h2 : W' u = false) : szW N W' < szW N W := by
  have key : ∀ n, u < n → (List.range n).countP W' + 1 ≤ (List.range n).countP W := by
    intro n
    induction n with
    | zero => intro h; omega
    | succ n ih =>
      intro hn
      rw [List.range_succ, List.countP_append, List.countP_append, List.countP_singleton, List.countP_singleton]
      have hmono : (List.range n).countP W' ≤ (List.range n).countP W := List.countP_mono_left fun u _ hu => h u hu
      by_cases e : u = n
      · subst e; rw [h1, h2]; simp; omega
      · have := ih (by omega)
        by_cases hg : W' n = true
        · rw [hg, h n hg]; simp; omega
        · rw [show W' n = false by simpa using hg]; simp; omega
  exact key N hu
/-- the last one with p -/
theorem last_with (p : Nat → Prop) : ∀ l : List Nat, (∃ x ∈ l, p x) → ∃ A x B, l = A ++ x :: B ∧ p x ∧ ∀ y ∈ B, ¬ p y
  | [], ⟨x, hx, _⟩ => by cases hx
  | a :: l, h => by
    by_cases h2 : ∃ x ∈ l, p x
    · obtain ⟨A, x, B, rfl, h3, h4⟩ := last_with p l h2
      exact ⟨a :: A, x, B, rfl, h3, h4⟩
    · obtain ⟨x, hx, hp⟩ := h
      rcases List.mem_cons.1 hx with rfl | hx
      · exact ⟨[], x, l, rfl, hp, fun y hy hy2 => h2 ⟨y, hy, hy2⟩⟩
      · exact absurd ⟨x, hx, hp⟩ h2
theorem first_with (p : Nat → Prop) : ∀ l : List Nat, (∃ x ∈ l, p x) → ∃ A x B, l = A ++ x :: B ∧ p x ∧ ∀ y ∈ A, ¬ p y
  | [], ⟨x, hx, _⟩ => by cases hx
  | a :: l, h => by
    by_cases ha : p a
    · exact ⟨[], a, l, rfl, ha, fun _ h => by cases h⟩
    · obtain ⟨x, hx, hp⟩ := h
      rcases List.mem_cons.1 hx with rfl | hx
      · exact absurd hp ha
      · obtain ⟨A, y, B, rfl, h3, h4⟩ := first_with p l ⟨x, hx, hp⟩
        refine ⟨a :: A, y, B, rfl, h3, fun z hz => ?_⟩
        rcases List.mem_cons.1 hz with rfl | hz
        · exact ha
        · exact h4 z hz
/-- a row that can't go on -/
theorem long_row (W : Nat → Bool) (hWN : ∀ i, W i = true → i < N) : ∀ (n : Nat) (P : List Nat) (e : Nat), N - P.length ≤ n → Ch nb (P ++ [e]) → (P ++ [e]).Nodup → (∀ x ∈ P ++ [e], W x = true) →
    ∃ (Q : List Nat) (f : Nat), P.length ≤ Q.length ∧ (∃ R, Q ++ [f] = (P ++ [e]) ++ R) ∧ Ch nb (Q ++ [f]) ∧ (Q ++ [f]).Nodup ∧ (∀ x ∈ Q ++ [f], W x = true) ∧ ∀ z, W z = true → nb f z = true → z ∈ Q ++ [f] := by
  intro n
  induction n with
  | zero =>
    intro P e hn hc hnd hW
    have := hnd.length_le_of_subset (l₂ := List.range N) fun x hx => List.mem_range.2 (hWN x (hW x hx))
    simp at this; omega
  | succ n ih =>
    intro P e hn hc hnd hW
    by_cases h : ∃ z, W z = true ∧ nb e z = true ∧ z ∉ P ++ [e]
    · obtain ⟨z, hz, hez, hzP⟩ := h
      obtain ⟨Q, f, h1, ⟨R, h2⟩, h3, h4, h5, h6⟩ := ih (P ++ [e]) z (by simp; omega) (hc.join ⟨fun y hy => (by cases hy), trivial⟩ fun u v hu hv => by
          have hu : e = u := by simpa using hu
          have hv : z = v := by simpa using hv
          rw [← hu, ← hv]; exact hez) (by
          rw [List.nodup_append]
          exact ⟨hnd, by simp, fun a ha b hb e2 => by
            rw [List.mem_singleton] at hb
            rw [e2, hb] at ha; exact hzP ha⟩) (fun x hx => by
          rcases List.mem_append.1 hx with hx | hx
          · exact hW x hx
          · rw [List.mem_singleton] at hx; rw [hx]; exact hz)
      exact ⟨Q, f, by simp at h1; omega, ⟨[z] ++ R, by rw [h2]; simp⟩, h3, h4, h5, h6⟩
    · exact ⟨P, e, Nat.le_refl _, ⟨[], by simp⟩, hc, hnd, hW, fun z hz hez => Classical.byContradiction fun hn => h ⟨z, hz, hez, hn⟩⟩
/-- a ring along edges, one of which has a neighbour with a colour, and the next one none: both alike, then round the ring -/
theorem ring_on (g : GB N nb) (hd : ∀ i, (nbs N nb i).length ≤ D) {W : Nat → Bool} {c : Nat → Nat} (hc : PC nb D W c) {b u e : Nat} {M : List Nat} (hch : Ch nb (b :: M ++ [e])) (hnd : (b :: M ++ [e]).Nodup) (hW : ∀ x ∈ b :: M ++ [e], W x = false)
    (hno : ∀ z, W z = true → nb b z = false) (hu : W u = true) (heu : nb e u = true) (heb : nb e b = true) : ∃ c', PC nb D (addL W (b :: M ++ [e])) c' := by
  have hub : u ≠ b := fun h => by rw [h, hW b (by simp)] at hu; cases hu
  have h1 : PC nb D (addW W b) (setC c b (c u)) := by
    refine ⟨fun i hi => ?_, fun i j hi hj hn => ?_⟩
    · by_cases h : i = b
      · rw [h, setC_same]; exact hc.1 u hu
      · rw [setC_other _ _ h]
        exact hc.1 i (by unfold addW at hi; simpa [h] using hi)
    · unfold addW at hi hj
      by_cases h : i = b
      · by_cases h2 : j = b
        · rw [h, h2, g.irr] at hn; cases hn
        · have hj2 : W j = true := by simpa [h2] using hj
          rw [h, hno j hj2] at hn; cases hn
      · have hi2 : W i = true := by simpa [h] using hi
        by_cases h2 : j = b
        · rw [h2] at hn
          have := g.sym _ _ hn
          rw [hno i hi2] at this; cases this
        · rw [setC_other _ _ h, setC_other _ _ h2]
          exact hc.2 i j hi2 (by simpa [h2] using hj) hn
  rw [List.cons_append, List.nodup_cons] at hnd
  have hW2 : ∀ x ∈ M ++ [e], addW W b x = false := fun x hx => by
    unfold addW
    have : x ≠ b := fun h => hnd.1 (h ▸ hx)
    rw [hW x (List.mem_cons_of_mem _ hx)]
    simp [this]
  obtain ⟨c2, h2, h3⟩ := color_list g hd M h1 (okl_row M _ e hch.2 hnd.2 hW2)
  have he : addL (addW W b) M e = false := by
    cases h : addL (addW W b) M e
    · rfl
    · rcases (addL_iff e M _).1 h with h4 | h4
      · have := List.nodup_append.1 hnd.2
        exact absurd rfl (this.2.2 e h4 e (by simp))
      · rw [hW2 e (by simp)] at h4; cases h4
  have hbW : addW W b b = true := by unfold addW; simp
  have huW : addW W b u = true := by unfold addW; rw [hu]; simp
  obtain ⟨x, hx⟩ := color_two g hd h2 he heb heu ((addL_iff b M _).2 (.inr hbW)) (Ne.symm hub) (by rw [h3 b hbW, h3 u huW, setC_same, setC_other _ _ hub])
  refine ⟨_, hx.congr fun i hi => ?_⟩
  have := (addL_iff i _ _).1 hi
  unfold addW
  by_cases hie : i = e
  · simp [hie]
  · have h5 : addL (addW W b) M i = true := (addL_iff i M _).2 (by
      unfold addW
      simp only [List.cons_append, List.mem_cons, List.mem_append, List.not_mem_nil, or_false] at this
      rcases this with (h | h | h) | h
      · right; simp [h]
      · left; exact h
      · exact absurd h hie
      · right; rw [h]; simp)
    rw [show addL (fun i => decide (i = b) || W i) M i = true from h5]; simp
/-- all of a row; the second one's neighbours, the first and the third, alike -/
theorem whole_row (g : GB N nb) (hd : ∀ i, (nbs N nb i).length ≤ D) (hD : 0 < D) {x v y w : Nat} {R1 R2 : List Nat} (hch : Ch nb (x :: v :: y :: (R1 ++ w :: R2))) (hnd : (x :: v :: y :: (R1 ++ w :: R2)).Nodup) (hxy : nb x y = false) (hvw : nb v w = true) (hvx : nb v x = true) (hvy : nb v y = true) :
    ∃ c, PC nb D (fun i => decide (i ∈ x :: v :: y :: (R1 ++ w :: R2))) c := by
  have hnd' := hnd
  simp only [List.nodup_cons, List.mem_cons, List.mem_append, not_or] at hnd
  obtain ⟨⟨hxv, hxy', hx1, hxw, hx2⟩, ⟨hvy', hv1, hvw', hv2⟩, ⟨hy1, hyw, hy2⟩, hR⟩ := hnd
  have hR' := List.nodup_append.1 hR
  have hw2 := List.nodup_cons.1 hR'.2.1
  have hw1 : w ∉ R1 := fun h => hR'.2.2 w h w (by simp) rfl
  -- both ends alike
  have h0 : PC nb D (addW (addW (fun _ => false) x) y) (fun _ => 0) := ⟨fun _ _ => hD, fun i j hi hj hn => by
    unfold addW at hi hj
    simp only [Bool.or_false, Bool.or_eq_true, decide_eq_true_eq] at hi hj
    exfalso
    rcases hi with rfl | rfl <;> rcases hj with rfl | rfl
    · rw [g.irr] at hn; cases hn
    · rw [g.sym _ _ hn] at hxy; cases hxy
    · rw [hn] at hxy; cases hxy
    · rw [g.irr] at hn; cases hn⟩
  have hW0 : ∀ z, z ≠ x → z ≠ y → addW (addW (fun _ => false) x) y z = false := fun z h1 h2 => by unfold addW; simp [h1, h2]
  generalize hWd : addW (addW (fun _ => false) x) y = W0 at *
  have hchR : Ch nb (R1 ++ w :: R2) := hch.2.2.2
  have hch1 : Ch nb (R1 ++ [w]) := (Ch.app (l₁ := R1 ++ [w]) (l₂ := R2) (by simpa using hchR)).1
  have hch2 : Ch nb (R2.reverse ++ [w]) := by
    have := (Ch.app (l₁ := R1) (l₂ := w :: R2) hchR).2
    have := Ch.rev g this
    rwa [List.reverse_cons] at this
  have ok1 : OKL nb W0 R1 := okl_row R1 W0 w hch1 (by
    rw [List.nodup_append]
    exact ⟨hR'.1, by simp, fun a ha b hb => by rw [List.mem_singleton] at hb; rw [hb]; exact fun e => hw1 (e ▸ ha)⟩) fun z hz => by
    rcases List.mem_append.1 hz with hz | hz
    · exact hW0 z (fun e => hx1 (e ▸ hz)) (fun e => hy1 (e ▸ hz))
    · rw [List.mem_singleton] at hz; rw [hz]
      exact hW0 w (Ne.symm hxw) (Ne.symm hyw)
  have ok2 : OKL nb (addL W0 R1) R2.reverse := okl_row R2.reverse _ w hch2 (by
    rw [List.nodup_append]
    exact ⟨(List.reverse_perm R2).nodup_iff.2 hw2.2, by simp, fun a ha b hb => by rw [List.mem_singleton] at hb; rw [hb]; exact fun e => hw2.1 (e ▸ List.mem_reverse.1 ha)⟩) fun z hz => by
    cases h : addL W0 R1 z
    · rfl
    · exfalso
      rcases (addL_iff z R1 W0).1 h with h1 | h1
      · rcases List.mem_append.1 hz with hz | hz
        · exact hR'.2.2 z h1 z (List.mem_cons_of_mem _ (List.mem_reverse.1 hz)) rfl
        · rw [List.mem_singleton] at hz; rw [hz] at h1; exact hw1 h1
      · rcases List.mem_append.1 hz with hz | hz
        · have hz := List.mem_reverse.1 hz
          rw [hW0 z (fun e => hx2 (e ▸ hz)) (fun e => hy2 (e ▸ hz))] at h1; cases h1
        · rw [List.mem_singleton] at hz; rw [hz, hW0 w (Ne.symm hxw) (Ne.symm hyw)] at h1; cases h1
  obtain ⟨c1, h1, h1'⟩ := color_list g hd (R1 ++ R2.reverse) h0 (okl_app R1 R2.reverse W0 ok1 ok2)
  have off : ∀ z, z ∉ R1 → z ∉ R2 → W0 z = false → addL W0 (R1 ++ R2.reverse) z = false := fun z a b d => by
    cases h : addL W0 (R1 ++ R2.reverse) z
    · rfl
    · rcases (addL_iff z _ W0).1 h with h2 | h2
      · rcases List.mem_append.1 h2 with h3 | h3
        · exact absurd h3 a
        · exact absurd (List.mem_reverse.1 h3) b
      · rw [d] at h2; cases h2
  have hv0 : W0 v = false := hW0 v (Ne.symm hxv) hvy'
  obtain ⟨a, h2⟩ := color_unc g hd h1 (off w hw1 hw2.1 (hW0 w (Ne.symm hxw) (Ne.symm hyw))) (g.sym _ _ hvw) (off v hv1 hv2 hv0)
  have hx0 : W0 x = true := by rw [← hWd]; unfold addW; simp
  have hy0 : W0 y = true := by rw [← hWd]; unfold addW; simp
  have hvf : addW (addL W0 (R1 ++ R2.reverse)) w v = false := by
    unfold addW
    rw [off v hv1 hv2 hv0]
    simp [hvw']
  obtain ⟨b, h3⟩ := color_two g hd h2 hvf hvx hvy (by unfold addW; rw [(addL_iff x _ W0).2 (.inr hx0)]; simp) hxy' (by
    rw [setC_other _ _ hxw, setC_other _ _ hyw, h1' x hx0, h1' y hy0])
  refine ⟨_, h3.congr fun i hi => ?_⟩
  simp only [decide_eq_true_eq, List.mem_cons, List.mem_append] at hi
  unfold addW
  rcases hi with rfl | rfl | rfl | h | rfl | h
  · rw [(addL_iff i _ W0).2 (.inr hx0)]; simp
  · simp
  · rw [(addL_iff i _ W0).2 (.inr hy0)]; simp
  · rw [(addL_iff i _ W0).2 (.inl (by simp [h]))]; simp
  · simp
  · rw [(addL_iff i _ W0).2 (.inl (by simp [h]))]; simp
/-- BROOKS: without a set of one more than D with all edges -/
theorem brooks (g : GB N nb) (hD : 3 ≤ D) (hd : ∀ i, (nbs N nb i).length ≤ D) : ∀ (n : Nat) (W : Nat → Bool), szW N W ≤ n → (∀ i, W i = true → i < N) →
    (∀ S : List Nat, S.Nodup → S.length = D + 1 → (∀ x ∈ S, W x = true) → ¬ ∀ x ∈ S, ∀ y ∈ S, x ≠ y → nb x y = true) → ∃ c, PC nb D W c := by
  intro n
  induction n with
  | zero =>
    intro W hn hWN _
    have h0 : ∀ i, W i = false := fun i => by
      cases h : W i
      · rfl
      · have := szW_lt (N := N) (W := W) (W' := fun _ => false) (fun _ h => by cases h) (hWN i h) h rfl
        omega
    exact ⟨fun _ => 0, (fun i hi => by rw [h0] at hi; cases hi), (fun i _ hi => by rw [h0] at hi; cases hi)⟩
  | succ n ih =>
    intro W hn hWN hcl
    -- smaller sets
    have sub : ∀ W' : Nat → Bool, (∀ i, W' i = true → W i = true) → (∃ u, W u = true ∧ W' u = false) → ∃ c, PC nb D W' c := fun W' h ⟨u, h1, h2⟩ =>
      ih W' (by have := szW_lt (N := N) h (hWN u h1) h1 h2; omega) (fun i hi => hWN i (h i hi)) fun S a b d => hcl S a b fun x hx => h x (d x hx)
    by_cases hemp : ∃ v, W v = true
    · obtain ⟨v, hv⟩ := hemp
      by_cases hless : ∃ v, W v = true ∧ ((nbs N nb v).filter W).length < D
      · obtain ⟨v, hv, hlt⟩ := hless
        obtain ⟨c, hc⟩ := sub (fun i => W i && !decide (i = v)) (fun i hi => by simp at hi; exact hi.1) ⟨v, hv, by simp⟩
        have hle : ((nbs N nb v).filter fun i => W i && !decide (i = v)).length ≤ ((nbs N nb v).filter W).length := by
          rw [← List.countP_eq_length_filter, ← List.countP_eq_length_filter]
          exact List.countP_mono_left fun a _ ha => by simp at ha; exact ha.1
        obtain ⟨x, hx⟩ := color_less g hc (u := v) (by simp) (by omega)
        exact ⟨_, hx.congr fun i hi => by unfold addW; by_cases e : i = v <;> simp [e, hi]⟩
      · have hreg : ∀ v, W v = true → ((nbs N nb v).filter W).length = D := fun v hv => by
          have h1 : ¬ ((nbs N nb v).filter W).length < D := fun h => hless ⟨v, hv, h⟩
          have h2 := List.length_filter_le W (nbs N nb v)
          have := hd v
          omega
        -- two neighbours without an edge
        have hpair : ∃ x y, nb v x = true ∧ nb v y = true ∧ W x = true ∧ W y = true ∧ x ≠ y ∧ nb x y = false := by
          refine Classical.byContradiction fun hno => ?_
          refine hcl (v :: (nbs N nb v).filter W) ?_ (by rw [List.length_cons, hreg v hv]) (fun x hx => ?_) ?_
          · rw [List.nodup_cons]
            refine ⟨fun h => ?_, (nbs_nodup N nb v).sublist List.filter_sublist⟩
            have := (mem_nbs g).1 (List.mem_filter.1 h).1
            rw [g.irr] at this; cases this
          · rcases List.mem_cons.1 hx with rfl | hx
            · exact hv
            · exact (List.mem_filter.1 hx).2
          · intro x hx y hy hxy
            rcases List.mem_cons.1 hx with rfl | hx
            · rcases List.mem_cons.1 hy with rfl | hy
              · exact absurd rfl hxy
              · exact (mem_nbs g).1 (List.mem_filter.1 hy).1
            · have h1 := (mem_nbs g).1 (List.mem_filter.1 hx).1
              rcases List.mem_cons.1 hy with rfl | hy
              · exact g.sym _ _ h1
              · cases h : nb x y
                · exact absurd ⟨x, y, h1, (mem_nbs g).1 (List.mem_filter.1 hy).1, (List.mem_filter.1 hx).2, (List.mem_filter.1 hy).2, hxy, h⟩ hno
                · rfl
        obtain ⟨x, y, hvx, hvy, hxW, hyW, hxy, hnxy⟩ := hpair
        have hxv : x ≠ v := fun e => by rw [e, g.irr] at hvx; cases hvx
        have hyv : y ≠ v := fun e => by rw [e, g.irr] at hvy; cases hvy
        obtain ⟨Q, e, _, ⟨R, hPR⟩, hch, hnd, hPW, hend⟩ := long_row (nb := nb) W hWN N [x, v] y (by omega) ⟨fun z hz => by
          have hz : v = z := by simpa using hz
          rw [← hz]; exact g.sym _ _ hvx, fun z hz => by
          have hz : y = z := by simpa using hz
          rw [← hz]; exact hvy, fun z hz => (by cases hz), trivial⟩ (by simp [hxv, hxy, Ne.symm hyv]) (fun z hz => by
          simp at hz
          rcases hz with rfl | rfl | rfl <;> assumption)
        have heW : W e = true := hPW e (by simp)
        -- the first neighbour of the end
        have hex : ∃ f ∈ Q ++ [e], nb e f = true := by
          have h1 := hreg e heW
          obtain ⟨f, hf⟩ : ∃ f, f ∈ (nbs N nb e).filter W := by
            cases hl : (nbs N nb e).filter W with
            | nil => rw [hl] at h1; simp at h1; omega
            | cons a l => exact ⟨a, by simp⟩
          rw [List.mem_filter] at hf
          have := (mem_nbs g).1 hf.1
          exact ⟨f, hend f hf.2 this, this⟩
        obtain ⟨Pre, f, Post, hsplit, hef, hpre⟩ := first_with (fun z => nb e z = true) _ hex
        have hfe : f ≠ e := fun h => by rw [h, g.irr] at hef; cases hef
        -- the ring from f on to e
        obtain ⟨Cm, hCm⟩ : ∃ Cm, f :: Post = (f :: Cm) ++ [e] := by
          have hl : (Pre ++ f :: Post).getLast? = some e := by rw [← hsplit]; simp
          rcases List.eq_nil_or_concat Post with rfl | ⟨Cm, z, rfl⟩
          · simp at hl; exact absurd hl hfe
          · refine ⟨Cm, ?_⟩
            have : z = e := by
              rw [List.concat_eq_append, ← List.cons_append, ← List.append_assoc, List.getLast?_append] at hl
              simpa using hl
            rw [this]; simp
        rw [hCm] at hsplit
        generalize hCy : (f :: Cm) ++ [e] = Cy at *
        have hchC : Ch nb Cy := by rw [hsplit] at hch; exact hch.app.2
        have hndC : Cy.Nodup := by rw [hsplit] at hnd; exact (List.nodup_append.1 hnd).2.1
        have hCW : ∀ z ∈ Cy, W z = true := fun z hz => hPW z (by rw [hsplit]; exact List.mem_append_right _ hz)
        have hendC : ∀ z, W z = true → nb e z = true → z ∈ Cy := fun z h1 h2 => by
          have := hend z h1 h2
          rw [hsplit] at this
          rcases List.mem_append.1 this with h3 | h3
          · exact absurd h2 (hpre z h3)
          · exact h3
        have hfC : f ∈ Cy := by rw [← hCy]; simp
        have heC : e ∈ Cy := by rw [← hCy]; simp
        obtain ⟨cO, hcO⟩ := sub (fun i => W i && !decide (i ∈ Cy)) (fun i hi => by simp at hi; exact hi.1) ⟨f, hCW f hfC, by simp [hfC]⟩
        by_cases hout : ∃ q ∈ Cy, ∃ z, W z = true ∧ z ∉ Cy ∧ nb q z = true
        · -- one has a neighbour outside
          obtain ⟨A, q, B, hABq, ⟨u, huW, huC, hqu⟩, hB⟩ := last_with (fun q => ∃ z, W z = true ∧ z ∉ Cy ∧ nb q z = true) Cy hout
          cases B with
          | nil =>
            exfalso
            have : q = e := by
              have h1 : Cy.getLast? = some e := by rw [← hCy, List.getLast?_append]; rfl
              rw [hABq] at h1
              simpa using h1
            rw [this] at hqu
            exact huC (hendC u huW hqu)
          | cons b B =>
            have hlast : ∀ z, (b :: B).getLast? = some z → z = e := fun z hz => by
              have h1 : Cy.getLast? = some e := by rw [← hCy, List.getLast?_append]; rfl
              rw [hABq, List.getLast?_append] at h1
              rw [show (q :: b :: B).getLast? = (b :: B).getLast? by rw [List.getLast?_cons_cons], hz] at h1
              simpa using h1
            have hhead : ∀ z, (A ++ [q]).head? = some z → z = f := fun z hz => by
              have h1 : Cy.head? = some f := by rw [← hCy]; simp
              rw [hABq] at h1
              cases A with
              | nil => simp at h1 hz; omega
              | cons a A => simp at h1 hz; omega
            have hchAq : Ch nb (A ++ [q]) := (Ch.app (l₁ := A ++ [q]) (l₂ := b :: B) (by rw [hABq] at hchC; simpa using hchC)).1
            have hchB : Ch nb (b :: B) := (Ch.app (l₁ := A ++ [q]) (l₂ := b :: B) (by rw [hABq] at hchC; simpa using hchC)).2
            have hqb : nb q b = true := by
              rw [hABq] at hchC
              exact (Ch.app (l₁ := A) (l₂ := q :: b :: B) hchC).2.1 b rfl
            have hring : Ch nb (b :: (B ++ A) ++ [q]) := by
              have : Ch nb ((b :: B) ++ (A ++ [q])) := hchB.join hchAq fun s t hs ht => by
                rw [hlast s hs, hhead t ht]; exact hef
              simpa using this
            have hperm : (b :: (B ++ A) ++ [q]).Perm Cy := by
              rw [hABq]
              have h1 : ((b :: B) ++ (A ++ [q])).Perm ((A ++ [q]) ++ (b :: B)) := List.perm_append_comm
              simpa using h1
            have hmem : ∀ z, z ∈ b :: (B ++ A) ++ [q] ↔ z ∈ Cy := fun z => hperm.mem_iff
            obtain ⟨c', hc'⟩ := ring_on g hd hcO (u := u) hring (hperm.nodup_iff.2 hndC) (fun z hz => by simp [(hmem z).1 hz]) (fun z hz => by
              simp only [Bool.and_eq_true, Bool.not_eq_true', decide_eq_false_iff_not] at hz
              cases h : nb b z
              · rfl
              · exact absurd ⟨z, hz.1, hz.2, h⟩ (hB b (by simp))) (by simp [huW, huC]) hqu hqb
            refine ⟨c', hc'.congr fun i hi => (addL_iff i _ _).2 ?_⟩
            by_cases h : i ∈ Cy
            · exact .inl ((hmem i).2 h)
            · right; simp [hi, h]
        · have hclosed : ∀ q z, q ∈ Cy → W z = true → nb q z = true → z ∈ Cy := fun q z hq hz hn => Classical.byContradiction fun h => hout ⟨q, hq, z, hz, h, hn⟩
          by_cases hwhole : ∃ z, W z = true ∧ z ∉ Cy
          · obtain ⟨z, hz, hzC⟩ := hwhole
            obtain ⟨cI, hcI⟩ := sub (fun i => decide (i ∈ Cy)) (fun i hi => hCW i (by simpa using hi)) ⟨z, hz, by simp [hzC]⟩
            exact ⟨_, hcI.union hcO (W := W) (fun i hi => by by_cases h : i ∈ Cy <;> simp [h, hi]) (fun i j hi hj hij => by
              simp only [decide_eq_true_eq] at hi
              simp only [Bool.and_eq_true, Bool.not_eq_true', decide_eq_false_iff_not] at hj
              cases h : nb i j
              · rfl
              · exact absurd (hclosed i j hi hj.1 h) hj.2) g.sym⟩
          · -- the row has all
            have hall : ∀ z, W z = true → z ∈ Cy := fun z hz => Classical.byContradiction fun h => hwhole ⟨z, hz, h⟩
            have hPre : Pre = [] := by
              cases Pre with
              | nil => rfl
              | cons a Pre =>
                exfalso
                rw [hsplit] at hnd
                have h1 := hPW a (by rw [hsplit]; simp)
                exact (List.nodup_append.1 hnd).2.2 a (by simp) a (hall a h1) rfl
            rw [hPre, List.nil_append] at hsplit
            -- x, v, y, and the rest
            rw [hsplit] at hPR
            have hCyR : Cy = x :: v :: y :: R := by rw [hPR]; simp
            obtain ⟨w, hw, hwx, hwy⟩ : ∃ w, w ∈ (nbs N nb v).filter W ∧ w ≠ x ∧ w ≠ y := by
              refine Classical.byContradiction fun hno => ?_
              have h1 := hreg v hv
              have h2 := ((nbs_nodup N nb v).sublist List.filter_sublist (l₁ := (nbs N nb v).filter W)).length_le_of_subset (l₂ := [x, y]) fun z hz => by
                by_cases a : z = x
                · simp [a]
                · by_cases b : z = y
                  · simp [b]
                  · exact absurd ⟨z, hz, a, b⟩ hno
              simp at h2; omega
            rw [List.mem_filter] at hw
            have hvw := (mem_nbs g).1 hw.1
            have hwR : w ∈ R := by
              have h1 := hall w hw.2
              rw [hCyR] at h1
              simp only [List.mem_cons] at h1
              rcases h1 with h | h | h | h
              · exact absurd h hwx
              · rw [h, g.irr] at hvw; cases hvw
              · exact absurd h hwy
              · exact h
            obtain ⟨R1, R2, rfl⟩ := List.append_of_mem hwR
            rw [hCyR] at hchC hndC
            obtain ⟨c, hc⟩ := whole_row g hd (by omega) hchC hndC hnxy hvw hvx hvy
            exact ⟨c, hc.congr fun i hi => by
              have := hall i hi
              rw [hCyR] at this
              simpa using this⟩
    · exact ⟨fun _ => 0, fun i hi => absurd ⟨i, hi⟩ hemp, fun i _ hi => absurd ⟨i, hi⟩ hemp⟩
end
end Go.Proofs.YtnpgnohnpbdblaaDoor
