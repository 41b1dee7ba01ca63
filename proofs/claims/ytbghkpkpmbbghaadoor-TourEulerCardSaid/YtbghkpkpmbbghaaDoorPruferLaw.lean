/- span: the code of a tree, and the tree of a code (Prufer). Plain. -/
namespace Go.Proofs.YtbghkpkpmbbghaaDoor

/-- a has one neighbour -/
def Lf (r : Nat → Nat → Bool) (a : Nat) : Prop := ∃ j, ∀ y, r a y = true ↔ y = j
def cutN (r : Nat → Nat → Bool) (i : Nat) : Nat → Nat → Bool := fun x y => r x y && x != i && y != i
theorem cutN_iff {r : Nat → Nat → Bool} {i x y : Nat} : cutN r i x y = true ↔ r x y = true ∧ x ≠ i ∧ y ≠ i := by
  unfold cutN
  rw [Bool.and_eq_true, Bool.and_eq_true, bne_iff_ne, bne_iff_ne, and_assoc]
/-- leaf by leaf: W's tree r has the code c -/
inductive PR : List Nat → (Nat → Nat → Bool) → List Nat → Prop
  | base {a b : Nat} {r : Nat → Nat → Bool} : a < b → (∀ x y, r x y = true ↔ (x = a ∧ y = b) ∨ (x = b ∧ y = a)) → PR [a, b] r []
  | step {W : List Nat} {r : Nat → Nat → Bool} {i j : Nat} {c : List Nat} : i ∈ W → j ∈ W → i ≠ j → (∀ y, r i y = true ↔ y = j) → (∀ y, r y i = true ↔ y = j) → (∀ k ∈ W, k < i → ¬ Lf r k) → PR (W.erase i) (cutN r i) c → PR W r (j :: c)
section
variable {W : List Nat} {r : Nat → Nat → Bool} {c : List Nat}
theorem PR.sub (h : PR W r c) : ∀ v ∈ c, v ∈ W := by
  induction h with
  | base _ _ => exact nofun
  | step _ hj _ _ _ _ _ ih =>
    intro v hv
    rcases List.mem_cons.1 hv with rfl | hv
    · exact hj
    · exact List.mem_of_mem_erase (ih v hv)
theorem PR.len (h : PR W r c) : W.length = c.length + 2 := by
  induction h with
  | base _ _ => rfl
  | step hi _ _ _ _ _ _ ih =>
    rw [List.length_erase_of_mem hi] at ih
    have := List.length_pos_of_mem hi
    simp only [List.length_cons]; omega
theorem PR.some (h : PR W r c) : ∀ v ∈ W, ∃ y, r v y = true := by
  induction h with
  | base hab hr =>
    intro v hv
    rcases List.mem_cons.1 hv with rfl | hv
    · exact ⟨_, (hr _ _).2 (.inl ⟨rfl, rfl⟩)⟩
    · obtain rfl : v = _ := by simpa using hv
      exact ⟨_, (hr _ _).2 (.inr ⟨rfl, rfl⟩)⟩
  | @step W r i j c hi hj hij h1 h2 _ _ ih =>
    intro v hv
    by_cases e : v = i
    · subst e; exact ⟨j, (h1 j).2 rfl⟩
    · obtain ⟨y, hy⟩ := ih v ((List.mem_erase_of_ne e).2 hv)
      exact ⟨y, (cutN_iff.1 hy).1⟩
theorem PR.sup (h : PR W r c) : ∀ x y, r x y = true → x ∈ W ∧ y ∈ W := by
  induction h with
  | base hab hr =>
    intro x y hxy
    rcases (hr x y).1 hxy with ⟨rfl, rfl⟩ | ⟨rfl, rfl⟩ <;> simp
  | @step W r i j c hi hj hij h1 h2 _ _ ih =>
    intro x y hxy
    by_cases ex : x = i
    · subst ex; obtain rfl := (h1 y).1 hxy; exact ⟨hi, hj⟩
    · by_cases ey : y = i
      · subst ey; obtain rfl := (h2 x).1 hxy; exact ⟨hj, hi⟩
      · obtain ⟨h3, h4⟩ := ih x y (cutN_iff.2 ⟨hxy, ex, ey⟩)
        exact ⟨List.mem_of_mem_erase h3, List.mem_of_mem_erase h4⟩
/-- the leaves are those that do not come -/
theorem PR.leaf (h : PR W r c) : W.Nodup → ∀ v ∈ W, (v ∉ c ↔ Lf r v) := by
  induction h with
  | base hab hr =>
    rename_i a b r
    intro _ v hv
    refine ⟨fun _ => ?_, fun _ => nofun⟩
    rcases List.mem_cons.1 hv with rfl | hv
    · exact ⟨b, fun y => by rw [hr]; omega⟩
    · obtain rfl : v = b := by simpa using hv
      exact ⟨a, fun y => by rw [hr]; omega⟩
  | @step W r i j c hi hj hij h1 h2 _ hp ih =>
    intro hnd v hv
    have hnd' := hnd.erase i
    by_cases e : v = i
    · subst e
      refine ⟨fun _ => ⟨j, h1⟩, fun _ hm => ?_⟩
      rcases List.mem_cons.1 hm with e | hm
      · exact hij e
      · exact (List.Nodup.not_mem_erase hnd) (hp.sub v hm)
    · have hv' : v ∈ W.erase i := (List.mem_erase_of_ne e).2 hv
      by_cases ej : v = j
      · subst ej
        refine ⟨fun h => absurd (by simp) h, fun ⟨y, hy⟩ => ?_⟩
        obtain ⟨z, hz⟩ := hp.some v hv'
        have hz := cutN_iff.1 hz
        have e1 := (hy z).1 hz.1
        have e2 := (hy i).1 ((h2 v).2 rfl)
        exact absurd (e1.trans e2.symm) hz.2.2
      · have hvi : r v i = false := by
          cases hh : r v i
          · rfl
          · exact absurd ((h2 v).1 hh) ej
        have hl : Lf (cutN r i) v ↔ Lf r v := by
          have : ∀ y, cutN r i v y = true ↔ r v y = true := fun y => by
            rw [cutN_iff]
            refine ⟨fun h => h.1, fun h => ⟨h, e, fun ey => ?_⟩⟩
            subst ey; rw [hvi] at h; cases h
          unfold Lf
          simp only [this]
        rw [← hl, ← ih hnd' v hv', List.mem_cons]
        simp [ej]
/-- from each to each -/
inductive Go (r : Nat → Nat → Bool) (a : Nat) : Nat → Prop
  | refl : Go r a a
  | step {b x : Nat} : Go r a b → r b x = true → Go r a x
theorem Go.trans {r : Nat → Nat → Bool} {a b x : Nat} (h : Go r a b) (h' : Go r b x) : Go r a x := by
  induction h' with
  | refl => exact h
  | step _ h2 ih => exact .step ih h2
theorem Go.mono {r r' : Nat → Nat → Bool} (hm : ∀ x y, r x y = true → r' x y = true) {a b : Nat} (h : Go r a b) : Go r' a b := by
  induction h with
  | refl => exact .refl
  | step _ h2 ih => exact .step ih (hm _ _ h2)
theorem PR.conn (h : PR W r c) : ∀ u ∈ W, ∀ v ∈ W, Go r u v := by
  induction h with
  | base hab hr =>
    rename_i a b r
    intro u hu v hv
    have hu : u = a ∨ u = b := by simpa using hu
    have hv : v = a ∨ v = b := by simpa using hv
    rcases hu with rfl | rfl <;> rcases hv with rfl | rfl
    · exact .refl
    · exact .step .refl ((hr _ _).2 (.inl ⟨rfl, rfl⟩))
    · exact .step .refl ((hr _ _).2 (.inr ⟨rfl, rfl⟩))
    · exact .refl
  | @step W r i j c hi hj hij h1 h2 _ hp ih =>
    have hm : ∀ x y, cutN r i x y = true → r x y = true := fun x y h => (cutN_iff.1 h).1
    have hj' : j ∈ W.erase i := (List.mem_erase_of_ne (fun e => hij e.symm)).2 hj
    have to : ∀ u ∈ W, Go r u j := fun u hu => by
      by_cases e : u = i
      · subst e; exact .step .refl ((h1 j).2 rfl)
      · exact (ih u ((List.mem_erase_of_ne e).2 hu) j hj').mono hm
    have fr : ∀ v ∈ W, Go r j v := fun v hv => by
      by_cases e : v = i
      · subst e; exact .step .refl ((h2 j).2 rfl)
      · exact (ih j hj' v ((List.mem_erase_of_ne e).2 hv)).mono hm
    exact fun u hu v hv => (to u hu).trans (fr v hv)
end
/-- the degrees of all, together -/
def dsum (r : Nat → Nat → Bool) : List Nat → Nat
  | [] => 0
  | i :: W => (r i i).toNat + W.countP (r i) + W.countP (fun x => r x i) + dsum r W
def degW (r : Nat → Nat → Bool) (W : List Nat) (x : Nat) : Nat := W.countP (r x)
theorem dsum_sum (r : Nat → Nat → Bool) (W : List Nat) : dsum r W = (W.map (degW r W)).sum := by
  have key : ∀ (V W : List Nat), (V.map (degW r W)).sum = (V.map (degW r W)).sum := fun _ _ => rfl
  induction W with
  | nil => rfl
  | cons i W ih =>
    have h1 : (W.map (degW r (i :: W))).sum = W.countP (fun x => r x i) + (W.map (degW r W)).sum := by
      have : ∀ V : List Nat, (V.map (degW r (i :: W))).sum = V.countP (fun x => r x i) + (V.map (degW r W)).sum := fun V => by
        induction V with
        | nil => rfl
        | cons x V ihV =>
          simp only [List.map_cons, List.sum_cons, List.countP_cons, ihV]
          unfold degW
          rw [List.countP_cons]
          split <;> omega
      exact this W
    simp only [List.map_cons, List.sum_cons, dsum, h1, ih]
    unfold degW
    rw [List.countP_cons]
    cases r i i <;> simp <;> omega
theorem dsum_perm {r : Nat → Nat → Bool} {W W' : List Nat} (h : W.Perm W') : dsum r W = dsum r W' := by
  rw [dsum_sum, dsum_sum]
  have : degW r W = degW r W' := funext fun x => h.countP_eq _
  rw [this]
  exact (h.map _).sum_nat
theorem dsum_congr {r r' : Nat → Nat → Bool} {W : List Nat} (h : ∀ x ∈ W, ∀ y ∈ W, r x y = r' x y) : dsum r W = dsum r' W := by
  rw [dsum_sum, dsum_sum]
  refine congrArg List.sum (List.map_congr_left fun x hx => ?_)
  exact List.countP_congr fun y hy => by rw [h x hx y hy]
/-- a tree on W -/
structure Tre (W : List Nat) (r : Nat → Nat → Bool) : Prop where
  nd : W.Nodup
  ir : ∀ x, r x x = false
  sy : ∀ x y, r x y = true → r y x = true
  su : ∀ x y, r x y = true → x ∈ W
  cn : ∀ u ∈ W, ∀ v ∈ W, Go r u v
  ds : dsum r W + 2 = 2 * W.length
theorem countP_one {p : Nat → Bool} : ∀ {W : List Nat}, W.Nodup → W.countP p = 1 → ∃ j ∈ W, ∀ y ∈ W, p y = true ↔ y = j
  | a :: W, hn, h => by
    rw [List.nodup_cons] at hn
    rw [List.countP_cons] at h
    by_cases ha : p a = true
    · rw [if_pos ha] at h
      have h0 := List.countP_eq_zero.1 (show W.countP p = 0 by omega)
      refine ⟨a, by simp, fun y hy => ?_⟩
      rcases List.mem_cons.1 hy with rfl | hy
      · simp [ha]
      · exact ⟨fun hp => absurd hp (h0 y hy), fun e => by rw [e] at hy; exact absurd hy hn.1⟩
    · rw [if_neg ha] at h
      obtain ⟨j, hj, hu⟩ := countP_one hn.2 (by omega)
      refine ⟨j, List.mem_cons_of_mem _ hj, fun y hy => ?_⟩
      rcases List.mem_cons.1 hy with rfl | hy
      · exact ⟨fun hp => absurd hp ha, fun e => by rw [e] at hn; exact absurd hj hn.1⟩
      · exact hu y hy
theorem Tre.leaf {W : List Nat} {r : Nat → Nat → Bool} (h : Tre W r) (h2 : 2 ≤ W.length) : ∃ i ∈ W, Lf r i := by
  have hsup : ∀ x y, r x y = true → y ∈ W := fun x y hxy => h.su y x (h.sy x y hxy)
  have hpos : ∀ x ∈ W, 1 ≤ degW r W x := fun x hx => by
    obtain ⟨y, hy, hne⟩ : ∃ y ∈ W, y ≠ x := by
      refine Classical.byContradiction fun hno => ?_
      have hall : ∀ y ∈ W, y = x := fun y hy => Classical.byContradiction fun hne => hno ⟨y, hy, hne⟩
      match W, h.nd, h2, hall with
      | a :: b :: _, hn, _, hall =>
        rw [List.nodup_cons] at hn
        exact hn.1 (by rw [hall a (by simp), ← hall b (by simp)]; simp)
    have hgo := h.cn y hy x hx
    have : ∃ b, r b x = true := by
      cases hgo with
      | refl => exact absurd rfl hne
      | step _ hb => exact ⟨_, hb⟩
    obtain ⟨b, hb⟩ := this
    exact List.countP_pos_iff.2 ⟨b, h.su b x hb, h.sy _ _ hb⟩
  have hex : ∃ x ∈ W, degW r W x = 1 := by
    refine Classical.byContradiction fun hno => ?_
    have h2' : ∀ x ∈ W, 2 ≤ degW r W x := fun x hx => by
      have h3 := hpos x hx
      have h4 : degW r W x ≠ 1 := fun e => hno ⟨x, hx, e⟩
      omega
    have hs : ∀ V : List Nat, (∀ x ∈ V, 2 ≤ degW r W x) → 2 * V.length ≤ (V.map (degW r W)).sum := fun V => by
      induction V with
      | nil => intro _; simp
      | cons a V ih =>
        intro hV
        have h1 := ih fun x hx => hV x (List.mem_cons_of_mem _ hx)
        have h2 := hV a (by simp)
        simp only [List.map_cons, List.sum_cons, List.length_cons]; omega
    have h5 := hs W h2'
    have h6 := h.ds
    rw [dsum_sum] at h6
    omega
  obtain ⟨i, hi, hd⟩ := hex
  obtain ⟨j, hj, hu⟩ := countP_one h.nd hd
  exact ⟨i, hi, j, fun y => ⟨fun hy => (hu y (hsup i y hy)).1 hy, fun e => by subst e; exact (hu y hj).2 rfl⟩⟩
theorem Tre.cut {W : List Nat} {r : Nat → Nat → Bool} (h : Tre W r) {i j : Nat} (hi : i ∈ W) (hl : ∀ y, r i y = true ↔ y = j) : Tre (W.erase i) (cutN r i) where
  nd := h.nd.erase i
  ir := fun x => by
    cases hh : cutN r i x x
    · rfl
    · have := (cutN_iff.1 hh).1; rw [h.ir] at this; cases this
  sy := fun x y hxy => by
    obtain ⟨h1, h2, h3⟩ := cutN_iff.1 hxy
    exact cutN_iff.2 ⟨h.sy x y h1, h3, h2⟩
  su := fun x y hxy => by
    obtain ⟨h1, h2, h3⟩ := cutN_iff.1 hxy
    exact (List.mem_erase_of_ne h2).2 (h.su x y h1)
  cn := by
    have hj : r i j = true := (hl j).2 rfl
    have key : ∀ u v, Go r u v → u ≠ i → v ≠ i → Go (cutN r i) u v := by
      intro u v hg hu
      have : (v ≠ i → Go (cutN r i) u v) ∧ (v = i → Go (cutN r i) u j) := by
        induction hg with
        | refl => exact ⟨fun _ => .refl, fun e => absurd e hu⟩
        | @step b x hb hbx ih =>
          by_cases eb : b = i
          · subst eb
            obtain rfl := (hl x).1 hbx
            exact ⟨fun _ => ih.2 rfl, fun e => by rw [e, h.ir] at hbx; cases hbx⟩
          · refine ⟨fun hx => .step (ih.1 eb) (cutN_iff.2 ⟨hbx, eb, hx⟩), fun e => ?_⟩
            subst e
            obtain rfl := (hl b).1 (h.sy _ _ hbx)
            exact ih.1 eb
      exact this.1
    intro u hu v hv
    exact key u v (h.cn u (List.mem_of_mem_erase hu) v (List.mem_of_mem_erase hv)) (fun e => h.nd.not_mem_erase (e ▸ hu)) (fun e => h.nd.not_mem_erase (e ▸ hv))
  ds := by
    have hp := List.perm_cons_erase hi
    have h1 := h.ds
    rw [dsum_perm hp, dsum] at h1
    have hji : j ≠ i := fun e => by
      have := (hl j).2 rfl
      rw [e, h.ir] at this; cases this
    have hjW : j ∈ W.erase i := (List.mem_erase_of_ne hji).2 (h.su j i (h.sy _ _ ((hl j).2 rfl)))
    have hnd := h.nd.erase i
    have e1 : (W.erase i).countP (r i) = 1 := by
      have : (W.erase i).countP (r i) = (W.erase i).count j := by
        rw [List.count_eq_countP]
        exact List.countP_congr fun y _ => by rw [hl y, beq_iff_eq]
      rw [this, List.Nodup.count hnd, if_pos hjW]
    have e2 : (W.erase i).countP (fun x => r x i) = 1 := by
      rw [← e1]
      exact List.countP_congr fun y _ => ⟨fun h' => h.sy _ _ h', fun h' => h.sy _ _ h'⟩
    have e3 : dsum (cutN r i) (W.erase i) = dsum r (W.erase i) := dsum_congr fun x hx y hy => by
      have hx' : x ≠ i := fun e => h.nd.not_mem_erase (e ▸ hx)
      have hy' : y ≠ i := fun e => h.nd.not_mem_erase (e ▸ hy)
      unfold cutN; rw [bne_iff_ne.2 hx', bne_iff_ne.2 hy', Bool.and_true, Bool.and_true]
    rw [h.ir, e1, e2] at h1
    rw [e3]
    have := hp.length_eq
    rw [List.length_cons] at this
    have e0 : (false).toNat = 0 := rfl
    rw [e0] at h1
    omega
end Go.Proofs.YtbghkpkpmbbghaaDoor
