/- Pairings: Berge, Hall, Konig; the way that pairs one more. No program in sight. -/
import Derived.Test.YtepphkloghaihaaDoorPopc
namespace Go.Proofs.YtepphkloghaihaaDoor

def cnt8 (p : Nat → Bool) : Nat := ((List.range 8).filter p).length
theorem cnt_inj {p q : Nat → Bool} (f : Nat → Nat) (h : ∀ j, j < 8 → p j = true → f j < 8 ∧ q (f j) = true) (inj : ∀ j j', j < 8 → j' < 8 → p j = true → p j' = true → f j = f j' → j = j') : cnt8 p ≤ cnt8 q := by
  have hnd : (((List.range 8).filter p).map f).Nodup := by
    have h0 : ((List.range 8).filter p).Nodup := List.nodup_range.sublist List.filter_sublist
    rw [List.Nodup, List.pairwise_map]
    refine List.Pairwise.imp_of_mem ?_ h0
    intro a b ha hb hne e
    simp only [List.mem_filter, List.mem_range] at ha hb
    exact hne (inj a b ha.1 hb.1 ha.2 hb.2 e)
  have := hnd.length_le_of_subset (l₂ := (List.range 8).filter q) fun x hx => by
    simp only [List.mem_map, List.mem_filter, List.mem_range] at hx ⊢
    obtain ⟨j, ⟨h1, h2⟩, rfl⟩ := hx
    exact h j h1 h2
  simpa [cnt8] using this
theorem cnt_inj1 {p q : Nat → Bool} (f : Nat → Nat) (i : Nat) (hi : i < 8 ∧ q i = true) (h : ∀ j, j < 8 → p j = true → f j < 8 ∧ q (f j) = true ∧ f j ≠ i) (inj : ∀ j j', j < 8 → j' < 8 → p j = true → p j' = true → f j = f j' → j = j') : cnt8 p + 1 ≤ cnt8 q := by
  have hnd : (i :: ((List.range 8).filter p).map f).Nodup := by
    have h0 : ((List.range 8).filter p).Nodup := List.nodup_range.sublist List.filter_sublist
    rw [List.nodup_cons]
    refine ⟨fun hm => ?_, ?_⟩
    · simp only [List.mem_map, List.mem_filter, List.mem_range] at hm
      obtain ⟨j, ⟨h1, h2⟩, e⟩ := hm
      exact (h j h1 h2).2.2 e
    · rw [List.Nodup, List.pairwise_map]
      refine List.Pairwise.imp_of_mem ?_ h0
      intro a b ha hb hne e
      simp only [List.mem_filter, List.mem_range] at ha hb
      exact hne (inj a b ha.1 hb.1 ha.2 hb.2 e)
  have := hnd.length_le_of_subset (l₂ := (List.range 8).filter q) fun x hx => by
    rcases List.mem_cons.1 hx with e | hx
    · subst e; simp only [List.mem_filter, List.mem_range]; exact hi
    · simp only [List.mem_map, List.mem_filter, List.mem_range] at hx ⊢
      obtain ⟨j, ⟨h1, h2⟩, rfl⟩ := hx
      exact ⟨(h j h1 h2).1, (h j h1 h2).2.1⟩
  simpa [cnt8] using this
theorem cnt_mono {p q : Nat → Bool} (h : ∀ j, j < 8 → p j = true → q j = true) : cnt8 p ≤ cnt8 q :=
  cnt_inj id (fun j hj hp => ⟨hj, h j hj hp⟩) (fun _ _ _ _ _ _ e => e)
theorem filter_split (p q : Nat → Bool) : ∀ l : List Nat, (l.filter p).length = (l.filter fun j => p j && q j).length + (l.filter fun j => p j && !q j).length
  | [] => rfl
  | a :: l => by
    have := filter_split p q l
    cases hp : p a <;> cases hq : q a <;> simp [hp, hq] <;> omega
theorem cnt_split (p q : Nat → Bool) : cnt8 p = cnt8 (fun j => p j && q j) + cnt8 (fun j => p j && !q j) := filter_split p q _
theorem cnt_below (n : Nat) (h : n ≤ 8) : cnt8 (fun i => decide (i < n)) = n := by
  have : ∀ n : Nat, n ≤ 8 → cnt8 (fun i => decide (i < n)) = n := by decide
  exact this n h
theorem cnt_congr {p q : Nat → Bool} (h : ∀ j, j < 8 → p j = q j) : cnt8 p = cnt8 q := by
  unfold cnt8
  congr 1
  exact List.filter_congr fun j hj => h j (List.mem_range.1 hj)
theorem cnt_popc (x : Nat) : cnt8 x.testBit = popc 8 x := rfl

def nbr (ns : List Nat) (i j : Nat) : Bool := (ns.getD i 0).testBit j
def NS (ns : List Nat) (S : Nat → Bool) (j : Nat) : Bool := (List.range 8).any fun i => S i && nbr ns i j
theorem NS_iff {ns : List Nat} {S : Nat → Bool} {j : Nat} : NS ns S j = true ↔ ∃ i, i < 8 ∧ S i = true ∧ nbr ns i j = true := by
  simp [NS]
/-- a pairing of those on the right that are not in X -/
structure PM (ns : List Nat) (X : Nat) (P : Nat → Int) : Prop where
  rng : ∀ j, j < 8 → -1 ≤ P j ∧ P j < ns.length
  ed : ∀ j, j < 8 → X.testBit j = false → 0 ≤ P j → nbr ns (P j).toNat j = true
  inj : ∀ j j', j < 8 → j' < 8 → X.testBit j = false → X.testBit j' = false → 0 ≤ P j → P j = P j' → j = j'
def Im (X : Nat) (P : Nat → Int) (i : Nat) : Prop := ∃ j, j < 8 ∧ X.testBit j = false ∧ P j = (i : Int)
def updP (P : Nat → Int) (j : Nat) (v : Int) : Nat → Int := fun k => if k = j then v else P k
/-- one more is paired -/
structure TP (ns : List Nat) (i A : Nat) (P P' : Nat → Int) : Prop where
  pm : PM ns A P'
  same : ∀ j, j < 8 → A.testBit j = true → P' j = P j
  im : ∀ m, Im A P' m ↔ Im A P m ∨ m = i
/-- none of those asked leads on -/
structure TF (ns : List Nat) (i A A' : Nat) (P : Nat → Int) : Prop where
  sub : ∀ j, A.testBit j = true → A'.testBit j = true
  own : ∀ j, nbr ns i j = true → A'.testBit j = true
  cl : ∀ j, j < 8 → A'.testBit j = true → A.testBit j = false → 0 ≤ P j ∧ ∀ j', nbr ns (P j).toNat j' = true → A'.testBit j' = true
/-- so far none of those asked leads on -/
structure TryI (ns : List Nat) (A0 A : Nat) (P : Nat → Int) (pre : List Nat) : Prop where
  sub : ∀ j, A0.testBit j = true → A.testBit j = true
  own : ∀ j, j ∈ pre → A.testBit j = true
  cl : ∀ j, j < 8 → A.testBit j = true → A0.testBit j = false → 0 ≤ P j ∧ ∀ j', nbr ns (P j).toNat j' = true → A.testBit j' = true
section
variable {ns : List Nat} {A0 A A1 A2 i j : Nat} {P P1 : Nat → Int} {pre : List Nat}
theorem TryI.start (ns : List Nat) (A : Nat) (P : Nat → Int) : TryI ns A A P [] := ⟨fun _ h => h, fun _ h => (by cases h), fun _ _ h h' => by rw [h] at h'; cases h'⟩
theorem TryI.skip (h : TryI ns A0 A P pre) (hj : A.testBit j = true) : TryI ns A0 A P (pre ++ [j]) :=
  ⟨h.sub, fun k hk => by
    rcases List.mem_append.1 hk with h1 | h1
    · exact h.own k h1
    · obtain rfl : k = j := by simpa using h1
      exact hj, h.cl⟩
theorem TryI.done (h : TryI ns A0 A P pre) (hp : ∀ j, nbr ns i j = true → j ∈ pre) : TF ns i A0 A P := ⟨h.sub, fun j hj => h.own j (hp j hj), h.cl⟩
def plusB (A A1 j : Nat) : Prop := ∀ k, A1.testBit k = (A.testBit k || k == j)
theorem TryI.out (h : TryI ns A0 A P pre) (hj : A.testBit j = false) : A0.testBit j = false := by
  cases hb : A0.testBit j
  · rfl
  · rw [h.sub j hb] at hj; cases hj
theorem PM.weaken {X Y : Nat} (h : PM ns X P) (hs : ∀ k, X.testBit k = true → Y.testBit k = true) : PM ns Y P := by
  have hh : ∀ k, Y.testBit k = false → X.testBit k = false := fun k hk => by
    cases hb : X.testBit k
    · rfl
    · rw [hs k hb] at hk; cases hk
  exact ⟨h.rng, fun k hk hx h0 => h.ed k hk (hh k hx) h0, fun k k' hk hk' hx hx' => h.inj k k' hk hk' (hh k hx) (hh k' hx')⟩
theorem Im.weaken {X Y m : Nat} (h : Im Y P m) (hs : ∀ k, X.testBit k = true → Y.testBit k = true) : Im X P m := by
  obtain ⟨k, h1, h2, h3⟩ := h
  refine ⟨k, h1, ?_, h3⟩
  cases hb : X.testBit k
  · rfl
  · rw [hs k hb] at h2; cases h2
/-- a free one on the right -/
theorem TP.free (hP : PM ns A0 P) (hno : ¬ Im A0 P i) (hi : i < ns.length) (hj8 : j < 8) (hj : A0.testBit j = false) (hn : nbr ns i j = true) (hf : P j < 0) : TP ns i A0 P (updP P j (i : Int)) := by
  refine ⟨⟨fun k hk => ?_, fun k hk hx h0 => ?_, fun k k' hk hk' hx hx' h0 he => ?_⟩, fun k hk hx => ?_, fun m => ?_⟩
  · unfold updP; split
    · omega
    · exact hP.rng k hk
  · unfold updP at h0 ⊢
    split
    · rename_i e; subst e; simpa using hn
    · rename_i e; rw [if_neg e] at h0; exact hP.ed k hk hx h0
  · unfold updP at h0 he
    by_cases e1 : k = j
    · by_cases e2 : k' = j
      · omega
      · rw [if_pos e1, if_neg e2] at he
        exact absurd ⟨k', hk', hx', he.symm⟩ hno
    · by_cases e2 : k' = j
      · rw [if_neg e1, if_pos e2] at he
        exact absurd ⟨k, hk, hx, he⟩ hno
      · rw [if_neg e1, if_neg e2] at he
        rw [if_neg e1] at h0
        exact hP.inj k k' hk hk' hx hx' h0 he
  · unfold updP
    rw [if_neg]
    intro e; subst e; rw [hj] at hx; cases hx
  · constructor
    · rintro ⟨k, hk, hx, he⟩
      unfold updP at he
      split at he
      · right; omega
      · exact .inl ⟨k, hk, hx, he⟩
    · rintro (⟨k, hk, hx, he⟩ | rfl)
      · refine ⟨k, hk, hx, ?_⟩
        unfold updP
        rw [if_neg]
        · exact he
        · intro e; subst e; omega
      · exact ⟨j, hj8, hj, by unfold updP; rw [if_pos rfl]⟩
/-- whoever had it has another one -/
theorem TP.turn (hT : TryI ns A0 A P pre) (hP : PM ns A0 P) (hno : ¬ Im A0 P i) (hi : i < ns.length) (hj8 : j < 8) (hj : A.testBit j = false) (hn : nbr ns i j = true) (hf : 0 ≤ P j) (hA1 : plusB A A1 j) (h : TP ns (P j).toNat A1 P P1) : TP ns i A0 P (updP P1 j (i : Int)) := by
  have hj0 := hT.out hj
  have hs : ∀ k, A0.testBit k = true → A1.testBit k = true := fun k hk => by rw [hA1 k, hT.sub k hk]; rfl
  have hj1 : A1.testBit j = true := by rw [hA1 j]; simp
  have hPj : ((P j).toNat : Int) = P j := by omega
  -- what stands where
  have val : ∀ k, k < 8 → A0.testBit k = false → k ≠ j → (A1.testBit k = true ∧ P1 k = P k) ∨ (A1.testBit k = false) := fun k hk _ _ => by
    cases hb : A1.testBit k
    · exact .inr rfl
    · exact .inl ⟨rfl, h.same k hk hb⟩
  have new : ∀ k, k < 8 → A1.testBit k = false → 0 ≤ P1 k → Im A1 P (P1 k).toNat ∨ P1 k = P j := fun k hk hb h0 => by
    rcases (h.im (P1 k).toNat).1 ⟨k, hk, hb, by omega⟩ with h1 | h1
    · exact .inl h1
    · right; omega
  have noti : ∀ k, k < 8 → A0.testBit k = false → k ≠ j → P1 k ≠ (i : Int) := fun k hk hx hne e => by
    rcases val k hk hx hne with ⟨_, h2⟩ | h2
    · exact hno ⟨k, hk, hx, by rw [← h2]; exact e⟩
    · rcases new k hk h2 (by omega) with h3 | h3
      · rw [e, Int.toNat_natCast] at h3
        exact hno (h3.weaken hs)
      · exact hno ⟨j, hj8, hj0, by rw [← h3]; exact e⟩
  have cross : ∀ k k', k < 8 → k' < 8 → A0.testBit k = false → k ≠ j → A1.testBit k = true → A1.testBit k' = false → 0 ≤ P k → P1 k' ≠ P k := fun k k' hk hk' hx hne h1 h2 h0 e => by
    rcases new k' hk' h2 (by omega) with ⟨q, hq, hqx, hqe⟩ | h3
    · rw [e] at hqe
      have hq0 : A0.testBit q = false := by
        cases hb : A0.testBit q
        · rfl
        · rw [hs q hb] at hqx; cases hqx
      have := hP.inj k q hk hq hx hq0 h0 (by omega)
      subst this
      rw [h1] at hqx; cases hqx
    · exact hne (hP.inj k j hk hj8 hx hj0 h0 (by omega))
  refine ⟨⟨fun k hk => ?_, fun k hk hx h0 => ?_, fun k k' hk hk' hx hx' h0 he => ?_⟩, fun k hk hx => ?_, fun m => ?_⟩
  · unfold updP; split
    · omega
    · exact h.pm.rng k hk
  · unfold updP at h0 ⊢
    split
    · rename_i e; subst e; simpa using hn
    · rename_i e
      rw [if_neg e] at h0
      rcases val k hk hx e with ⟨_, h2⟩ | h2
      · rw [h2] at h0 ⊢; exact hP.ed k hk hx h0
      · exact h.pm.ed k hk h2 h0
  · unfold updP at h0 he
    by_cases e1 : k = j
    · by_cases e2 : k' = j
      · omega
      · rw [if_pos e1, if_neg e2] at he
        exact absurd he.symm (noti k' hk' hx' e2)
    · by_cases e2 : k' = j
      · rw [if_neg e1, if_pos e2] at he
        exact absurd he (noti k hk hx e1)
      · rw [if_neg e1, if_neg e2] at he
        rw [if_neg e1] at h0
        rcases val k hk hx e1 with ⟨h1, h2⟩ | h1
        · rcases val k' hk' hx' e2 with ⟨h3, h4⟩ | h3
          · rw [h2] at h0 he
            rw [h4] at he
            exact hP.inj k k' hk hk' hx hx' h0 he
          · rw [h2] at h0 he
            exact absurd he.symm (cross k k' hk hk' hx e1 h1 h3 h0)
        · rcases val k' hk' hx' e2 with ⟨h3, h4⟩ | h3
          · rw [h4] at he
            exact absurd he (cross k' k hk' hk hx' e2 h3 h1 (by omega))
          · exact h.pm.inj k k' hk hk' h1 h3 h0 he
  · unfold updP
    rw [if_neg (fun e => by subst e; rw [hj0] at hx; cases hx)]
    exact h.same k hk (hs k hx)
  · constructor
    · rintro ⟨k, hk, hx, he⟩
      unfold updP at he
      split at he
      · right; omega
      · rename_i e
        left
        rcases val k hk hx e with ⟨_, h2⟩ | h2
        · exact ⟨k, hk, hx, by rw [← h2]; exact he⟩
        · rcases new k hk h2 (by omega) with h3 | h3
          · rw [he, Int.toNat_natCast] at h3
            exact h3.weaken hs
          · exact ⟨j, hj8, hj0, by omega⟩
    · have bring : Im A1 P1 m → Im A0 (updP P1 j (i : Int)) m := fun ⟨q, hq, hqx, hqe⟩ => by
        refine ⟨q, hq, ?_, ?_⟩
        · cases hb : A0.testBit q
          · rfl
          · rw [hs q hb] at hqx; cases hqx
        · unfold updP
          rw [if_neg (fun e => by subst e; rw [hj1] at hqx; cases hqx)]
          exact hqe
      rintro (⟨k, hk, hx, he⟩ | rfl)
      · by_cases e : k = j
        · subst e
          exact bring ((h.im m).2 (.inr (by omega)))
        · cases hb : A1.testBit k
          · exact bring ((h.im m).2 (.inl ⟨k, hk, hb, he⟩))
          · exact ⟨k, hk, hx, by unfold updP; rw [if_neg e, h.same k hk hb]; exact he⟩
      · exact ⟨j, hj8, hj0, by unfold updP; rw [if_pos rfl]⟩
theorem TryI.fail (hT : TryI ns A0 A P pre) (hA1 : plusB A A1 j) (hf : 0 ≤ P j) (h : TF ns (P j).toNat A1 A2 P) : TryI ns A0 A2 P (pre ++ [j]) := by
  have up : ∀ k, A.testBit k = true → A2.testBit k = true := fun k hk => h.sub k (by rw [hA1 k, hk]; rfl)
  have hj2 : A2.testBit j = true := h.sub j (by rw [hA1 j]; simp)
  refine ⟨fun k hk => up k (hT.sub k hk), fun k hk => ?_, fun k hk hk2 hk0 => ?_⟩
  · rcases List.mem_append.1 hk with h1 | h1
    · exact up k (hT.own k h1)
    · obtain rfl : k = j := by simpa using h1
      exact hj2
  · cases hb : A1.testBit k
    · exact h.cl k hk hk2 hb
    · rw [hA1 k] at hb
      cases hb2 : A.testBit k
      · rw [hb2] at hb
        obtain rfl : k = j := by simpa using hb
        exact ⟨hf, h.own⟩
      · have := hT.cl k hk hb2 hk0
        exact ⟨this.1, fun j' hj' => up j' (this.2 j' hj')⟩
/-- whoever is asked next is not paired with anyone else -/
theorem TryI.next (hT : TryI ns A0 A P pre) (hP : PM ns A0 P) (hj8 : j < 8) (hj : A.testBit j = false) (hf : 0 ≤ P j) (hA1 : plusB A A1 j) : PM ns A1 P ∧ (P j).toNat < ns.length ∧ ¬ Im A1 P (P j).toNat := by
  have hj0 := hT.out hj
  have hs : ∀ k, A0.testBit k = true → A1.testBit k = true := fun k hk => by rw [hA1 k, hT.sub k hk]; rfl
  refine ⟨hP.weaken hs, by have := hP.rng j hj8; omega, fun ⟨q, hq, hqx, hqe⟩ => ?_⟩
  have hq0 : A0.testBit q = false := by
    cases hb : A0.testBit q
    · rfl
    · rw [hs q hb] at hqx; cases hqx
  have := hP.inj j q hj8 hq hj0 hq0 hf (by omega)
  subst this
  rw [hA1 j] at hqx; simp at hqx
end
/-! ## as many as can be -/
def cntP (P : Nat → Int) : Nat := cnt8 fun j => decide (0 ≤ P j)
/-- the first i were asked; k have one; S shows that no more can -/
structure MI (ns : List Nat) (i : Nat) (P : Nat → Int) (k : Nat) (S : Nat → Bool) : Prop where
  pm : PM ns 0 P
  im : ∀ m, Im 0 P m → m < i
  ct : cntP P = k
  sl : ∀ m, S m = true → m < i
  df : i + cnt8 (NS ns S) ≤ k + cnt8 S
theorem z0 (j : Nat) : (0 : Nat).testBit j = false := Nat.zero_testBit j
theorem MI.start (ns : List Nat) : MI ns 0 (fun _ => -1) 0 (fun _ => false) :=
  ⟨⟨fun _ _ => by omega, fun _ _ _ h => by omega, fun _ _ _ _ _ _ h => by omega⟩, fun m ⟨_, _, _, h⟩ => by have h' : (-1 : Int) = m := h; omega, by decide, fun _ h => (by cases h), by
    have : cnt8 (NS ns fun _ => false) ≤ cnt8 fun _ => false := cnt_mono fun j _ h => by simp [NS] at h
    omega⟩
theorem MI.more {ns : List Nat} {i k : Nat} {P P' : Nat → Int} {S : Nat → Bool} (h : MI ns i P k S) (hno : ¬ Im 0 P i) (t : TP ns i 0 P P') : MI ns (i + 1) P' (k + 1) S := by
  have h1 : cntP P + 1 ≤ cntP P' := by
    -- each one on the right that is paired: where its partner is now
    have pick : ∀ j, ∃ j', (j < 8 → 0 ≤ P j → j' < 8 ∧ P' j' = P j) := fun j => by
      by_cases hj : j < 8 ∧ 0 ≤ P j
      · obtain ⟨j', h1, _, h3⟩ := (t.im (P j).toNat).2 (.inl ⟨j, hj.1, z0 j, by omega⟩)
        exact ⟨j', fun _ _ => ⟨h1, by omega⟩⟩
      · exact ⟨0, fun h1 h2 => absurd ⟨h1, h2⟩ hj⟩
    obtain ⟨ji, hji, _, hjv⟩ := (t.im i).2 (.inr rfl)
    obtain ⟨g, hg⟩ := Classical.axiomOfChoice pick
    refine cnt_inj1 g ji ⟨hji, by simp [hjv]⟩ (fun j hj hp => ?_) (fun j j' hj hj' hp hp' e => ?_)
    · have h0 : 0 ≤ P j := by simpa using hp
      obtain ⟨a, b⟩ := hg j hj h0
      refine ⟨a, by simp [b, h0], fun e => hno ⟨j, hj, z0 j, ?_⟩⟩
      rw [← b, e, hjv]
    · have h0 : 0 ≤ P j := by simpa using hp
      have h0' : 0 ≤ P j' := by simpa using hp'
      obtain ⟨_, b⟩ := hg j hj h0
      obtain ⟨_, b'⟩ := hg j' hj' h0'
      rw [e, b'] at b
      exact h.pm.inj j j' hj hj' (z0 _) (z0 _) h0 b.symm
  have h2 : cntP P' ≤ cntP P + 1 := by
    have pick : ∀ j, ∃ j', (j < 8 → 0 ≤ P' j → P' j ≠ i → j' < 8 ∧ P j' = P' j) := fun j => by
      by_cases hj : j < 8 ∧ 0 ≤ P' j ∧ P' j ≠ i
      · rcases (t.im (P' j).toNat).1 ⟨j, hj.1, z0 j, by omega⟩ with ⟨j', h1, _, h3⟩ | e
        · exact ⟨j', fun _ _ _ => ⟨h1, by omega⟩⟩
        · exact absurd (by omega) hj.2.2
      · exact ⟨0, fun h1 h2 h3 => absurd ⟨h1, h2, h3⟩ hj⟩
    have hs := cnt_split (fun j => decide (0 ≤ P' j)) (fun j => P' j == (i : Int))
    have ha : cnt8 (fun j => decide (0 ≤ P' j) && (P' j == (i : Int))) ≤ 1 := by
      have := cnt_inj (p := fun j => decide (0 ≤ P' j) && (P' j == (i : Int))) (q := fun j => decide (j < 1)) (fun _ => 0) (fun _ _ _ => by simp) (fun j j' hj hj' hp hp' _ => by
        simp at hp hp'
        exact t.pm.inj j j' hj hj' (z0 _) (z0 _) hp.1 (by omega))
      rwa [cnt_below 1 (by omega)] at this
    have hb : cnt8 (fun j => decide (0 ≤ P' j) && !(P' j == (i : Int))) ≤ cntP P := by
      obtain ⟨g, hg⟩ := Classical.axiomOfChoice pick
      refine cnt_inj g (fun j hj hp => ?_) (fun j j' hj hj' hp hp' e => ?_)
      · simp at hp
        obtain ⟨a, b⟩ := hg j hj hp.1 hp.2
        exact ⟨a, by simp [b, hp.1]⟩
      · simp at hp hp'
        obtain ⟨_, b⟩ := hg j hj hp.1 hp.2
        obtain ⟨_, b'⟩ := hg j' hj' hp'.1 hp'.2
        rw [e, b'] at b
        exact t.pm.inj j j' hj hj' (z0 _) (z0 _) hp.1 b.symm
    unfold cntP at hb ⊢
    omega
  refine ⟨t.pm, fun m hm => ?_, by rw [← h.ct]; omega, fun m hm => by have := h.sl m hm; omega, by have := h.df; omega⟩
  rcases (t.im m).1 hm with h3 | h3
  · have := h.im m h3; omega
  · omega
def addS (S : Nat → Bool) (i A : Nat) (P : Nat → Int) (m : Nat) : Bool := S m || m == i || (List.range 8).any fun j => A.testBit j && P j == (m : Int)
theorem MI.none {ns : List Nat} {i k A : Nat} {P : Nat → Int} {S : Nat → Bool} (h : MI ns i P k S) (hn8 : ns.length ≤ 8) (hi : i < ns.length) (hA : A < 256) (t : TF ns i 0 A P) : MI ns (i + 1) P k (addS S i A P) := by
  have hA8 : ∀ j, A.testBit j = true → j < 8 := fun j hj => Nat.lt_of_not_le fun hle => by
    have := Nat.testBit_lt_two_pow (Nat.lt_of_lt_of_le hA (Nat.pow_le_pow_right (n := 2) (by omega) hle))
    rw [hj] at this; cases this
  have hPl : ∀ j, A.testBit j = true → 0 ≤ P j ∧ (P j).toNat < i := fun j hj => by
    have h0 := (t.cl j (hA8 j hj) hj (z0 j)).1
    exact ⟨h0, h.im _ ⟨j, hA8 j hj, z0 j, by omega⟩⟩
  have inS : ∀ j, A.testBit j = true → addS S i A P (P j).toNat = true := fun j hj => by
    have h0 := (hPl j hj).1
    have : ((List.range 8).any fun q => A.testBit q && P q == ((P j).toNat : Int)) = true := by
      simp only [List.any_eq_true, List.mem_range, Bool.and_eq_true, beq_iff_eq]
      exact ⟨j, hA8 j hj, hj, by omega⟩
    unfold addS
    rw [this]; simp
  refine ⟨h.pm, fun m hm => by have := h.im m hm; omega, h.ct, fun m hm => ?_, ?_⟩
  · unfold addS at hm
    simp only [Bool.or_eq_true, beq_iff_eq, List.any_eq_true, List.mem_range, Bool.and_eq_true] at hm
    rcases hm with (h1 | h1) | ⟨j, _, h2, h3⟩
    · have := h.sl m h1; omega
    · omega
    · have := hPl j h2; omega
  · -- how much is added on either side
    have e1 := cnt_split (addS S i A P) S
    have e2 : cnt8 S ≤ cnt8 (fun m => addS S i A P m && S m) := cnt_mono fun m _ hm => by simp [addS, hm]
    have e3 : cnt8 (NS ns (addS S i A P)) ≤ cnt8 (NS ns S) + cnt8 (fun j => A.testBit j && !NS ns S j) := by
      have s1 := cnt_split (NS ns (addS S i A P)) (NS ns S)
      have s2 : cnt8 (fun j => NS ns (addS S i A P) j && NS ns S j) ≤ cnt8 (NS ns S) := cnt_mono fun j _ hj => by simp at hj; exact hj.2
      have s3 : cnt8 (fun j => NS ns (addS S i A P) j && !NS ns S j) ≤ cnt8 (fun j => A.testBit j && !NS ns S j) := cnt_mono fun j _ hj => by
        simp only [Bool.and_eq_true, Bool.not_eq_true'] at hj ⊢
        refine ⟨?_, hj.2⟩
        obtain ⟨m, hm8, hm, hb⟩ := NS_iff.1 hj.1
        unfold addS at hm
        simp only [Bool.or_eq_true, beq_iff_eq, List.any_eq_true, List.mem_range, Bool.and_eq_true] at hm
        rcases hm with (h1 | h1) | ⟨q, hq, h2, h3⟩
        · rw [NS_iff.2 ⟨m, hm8, h1, hb⟩] at hj; simp at hj
        · subst h1; exact t.own j hb
        · exact (t.cl q hq h2 (z0 q)).2 j (by rw [h3, Int.toNat_natCast]; exact hb)
      omega
    have e4 : cnt8 (fun j => A.testBit j && !NS ns S j) + 1 ≤ cnt8 (fun m => addS S i A P m && !S m) := by
      refine cnt_inj1 (fun j => (P j).toNat) i ⟨by omega, ?_⟩ (fun j hj hp => ?_) (fun j j' hj hj' hp hp' e => ?_)
      · have : S i = false := by
          cases hb : S i
          · rfl
          · have := h.sl i hb; omega
        simp [addS, this]
      · simp only [Bool.and_eq_true, Bool.not_eq_true'] at hp
        obtain ⟨h0, hl⟩ := hPl j hp.1
        refine ⟨by omega, ?_, by omega⟩
        simp only [Bool.and_eq_true, Bool.not_eq_true']
        refine ⟨inS j hp.1, ?_⟩
        cases hb : S (P j).toNat
        · rfl
        · have := NS_iff.2 ⟨(P j).toNat, by omega, hb, h.pm.ed j hj (z0 j) h0⟩
          rw [this] at hp; simp at hp
      · simp only [Bool.and_eq_true, Bool.not_eq_true'] at hp hp'
        have h0 := (hPl j hp.1).1
        have h0' := (hPl j' hp'.1).1
        exact h.pm.inj j j' hj hj' (z0 _) (z0 _) h0 (by omega)
    have := h.df
    omega
/-- as many as can be: a pairing, and some that have no more friends -/
def Mx (ns : List Nat) (k : Nat) : Prop := (∃ P, PM ns 0 P ∧ cntP P = k) ∧ ∃ S : Nat → Bool, (∀ m, S m = true → m < ns.length) ∧ ns.length + cnt8 (NS ns S) ≤ k + cnt8 S
theorem MI.mx {ns : List Nat} {k : Nat} {P : Nat → Int} {S : Nat → Bool} (h : MI ns ns.length P k S) : Mx ns k := ⟨⟨P, h.pm, h.ct⟩, S, h.sl, h.df⟩
/-- no pairing has more -/
theorem PM.le {ns : List Nat} (hn8 : ns.length ≤ 8) {P : Nat → Int} (h : PM ns 0 P) {S : Nat → Bool} (hS : ∀ m, S m = true → m < ns.length) : cntP P + cnt8 S ≤ ns.length + cnt8 (NS ns S) := by
  have s1 := cnt_split (fun j => decide (0 ≤ P j)) (fun j => S (P j).toNat)
  have s2 : cnt8 (fun j => decide (0 ≤ P j) && S (P j).toNat) ≤ cnt8 (NS ns S) := cnt_mono fun j hj hp => by
    simp at hp
    exact NS_iff.2 ⟨(P j).toNat, by have := h.rng j hj; omega, hp.2, h.ed j hj (z0 j) hp.1⟩
  have s3 : cnt8 (fun j => decide (0 ≤ P j) && !S (P j).toNat) ≤ cnt8 (fun m => decide (m < ns.length) && !S m) := by
    refine cnt_inj (fun j => (P j).toNat) (fun j hj hp => ?_) (fun j j' hj hj' hp hp' e => ?_)
    · simp at hp
      have := h.rng j hj
      exact ⟨by omega, by simp [hp.2]; omega⟩
    · simp at hp hp'
      exact h.inj j j' hj hj' (z0 _) (z0 _) hp.1 (by omega)
  have s4 := cnt_split (fun m => decide (m < ns.length)) S
  rw [cnt_below _ hn8] at s4
  have s5 : cnt8 S ≤ cnt8 (fun m => decide (m < ns.length) && S m) := cnt_mono fun m _ hm => by simp [hm, hS m hm]
  unfold cntP
  omega
theorem Mx.le {ns : List Nat} (hn8 : ns.length ≤ 8) {k : Nat} (h : Mx ns k) {P : Nat → Int} (hP : PM ns 0 P) : cntP P ≤ k := by
  obtain ⟨_, S, hS, hd⟩ := h
  have := hP.le hn8 hS
  omega
end Go.Proofs.YtepphkloghaihaaDoor
