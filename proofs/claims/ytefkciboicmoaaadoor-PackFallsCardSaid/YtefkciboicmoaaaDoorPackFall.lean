/- SIMCHI-LEVI: the largest first. No program in sight. -/
import Derived.Test.YtefkciboicmoaaaDoorPackFit
namespace Go.Proofs.YtefkciboicmoaaaDoor
open Go.RowKit

section
variable {o : List Nat} {f g : Nat → Int}
def sm (o : List Nat) (f : Nat → Int) : Int := (o.map f).sum
theorem sm_cons (a : Nat) (o : List Nat) (f : Nat → Int) : sm (a :: o) f = f a + sm o f := by simp [sm]
theorem sm_le : ∀ {o : List Nat}, (∀ i, i ∈ o → f i ≤ g i) → sm o f ≤ sm o g
  | [], _ => Int.le_refl _
  | a :: o, h => by
    have h1 := h a (by simp)
    have h2 := sm_le (o := o) fun i hi => h i (by simp [hi])
    rw [sm_cons, sm_cons]; omega
theorem sm_lt : ∀ {o : List Nat}, (∀ i, i ∈ o → f i ≤ g i) → (∃ i, i ∈ o ∧ f i + 1 ≤ g i) → sm o f + 1 ≤ sm o g
  | [], _, h => by obtain ⟨i, hi, _⟩ := h; simp at hi
  | a :: o, h, ⟨i, hi, hs⟩ => by
    have h1 := h a (by simp)
    rw [sm_cons, sm_cons]
    by_cases e : i = a
    · subst e
      have h2 := sm_le (o := o) fun i hi => h i (by simp [hi])
      omega
    · have h2 := sm_lt (o := o) (fun i hi => h i (by simp [hi])) ⟨i, by simpa [e] using hi, hs⟩
      omega
theorem sm_add : ∀ (o : List Nat), sm o (fun i => f i + g i) = sm o f + sm o g
  | [] => rfl
  | a :: o => by rw [sm_cons, sm_cons, sm_cons, sm_add o]; omega
theorem sm_mul (k : Int) : ∀ (o : List Nat), sm o (fun i => k * f i) = k * sm o f
  | [] => by simp [sm]
  | a :: o => by rw [sm_cons, sm_cons, sm_mul k o, Int.mul_add]
theorem sm_congr (h : ∀ i, i ∈ o → f i = g i) : sm o f = sm o g := Int.le_antisymm (sm_le fun i hi => by rw [h i hi]; exact Int.le_refl _) (sm_le fun i hi => by rw [h i hi]; exact Int.le_refl _)
end
/-- before each thing's box each box has a thing as large -/
theorem FF.ahead {z : Nat → Int} {room : Int} {o : List Nat} {bs : List Int} {F : Nat → Int} (hz : ∀ i, 0 ≤ z i ∧ z i ≤ room) (h : FF z room o bs F) (hn : o.Nodup) (hp : o.Pairwise fun a b => z b ≤ z a) : ∀ i, i ∈ o → ∀ c : Nat, (c : Int) < F i → ∃ i', i' ∈ o ∧ F i' = c ∧ z i ≤ z i' := by
  have main : ∀ (o : List Nat) (bs : List Int) (F : Nat → Int) (i : Nat) (k : Int), FF z room o bs F → (o ++ [i]).Nodup → (o ++ [i]).Pairwise (fun a b => z b ≤ z a) → k ≤ bs.length → (∀ i, i ∈ o → ∀ c : Nat, (c : Int) < F i → ∃ i', i' ∈ o ∧ F i' = c ∧ z i ≤ z i') →
      ∀ j, j ∈ o ++ [i] → ∀ c : Nat, (c : Int) < (if j = i then k else F j) → ∃ i', i' ∈ o ++ [i] ∧ (if i' = i then k else F i') = c ∧ z j ≤ z i' := by
    intro o bs F i k hf hn hp hk ih j hj c hc
    have hn2 := List.nodup_append.1 hn
    have hp2 := List.pairwise_append.1 hp
    have hio : i ∉ o := fun h => hn2.2.2 i h i (by simp) rfl
    by_cases e : j = i
    · rw [if_pos e] at hc
      obtain ⟨i', h1, h2⟩ := (hf.fi hz hn2.1).used c (by omega)
      exact ⟨i', by simp [h1], by rw [if_neg (fun e : i' = i => hio (e ▸ h1))]; exact h2, by rw [e]; exact hp2.2.2 i' h1 i (by simp)⟩
    · rw [if_neg e] at hc
      obtain ⟨i', h1, h2, h3⟩ := ih j (by simpa [e] using hj) c hc
      exact ⟨i', by simp [h1], by rw [if_neg (fun e : i' = i => hio (e ▸ h1))]; exact h2, h3⟩
  induction h with
  | start => intro i h; simp at h
  | @fit o bs F i k hf hk hr hb ih => exact main o bs F i k hf hn hp (by omega) (ih (List.nodup_append.1 hn).1 (List.pairwise_append.1 hp).1)
  | @new o bs F i hf hb ih => exact main o bs F i bs.length hf hn hp (by omega) (ih (List.nodup_append.1 hn).1 (List.pairwise_append.1 hp).1)
theorem least_of (z : Nat → Int) (P : Nat → Prop) : ∀ o : List Nat, (∃ i, i ∈ o ∧ P i) → ∃ i, i ∈ o ∧ P i ∧ ∀ j, j ∈ o → P j → z i ≤ z j
  | [], h => by obtain ⟨i, hi, _⟩ := h; simp at hi
  | a :: o, h => by
    by_cases ho : ∃ i, i ∈ o ∧ P i
    · obtain ⟨i, h1, h2, h3⟩ := least_of z P o ho
      by_cases ha : P a ∧ z a < z i
      · refine ⟨a, by simp, ha.1, fun j hj hP => ?_⟩
        rcases List.mem_cons.1 hj with e | e
        · rw [e]; omega
        · have := h3 j e hP; omega
      · refine ⟨i, by simp [h1], h2, fun j hj hP => ?_⟩
        rcases List.mem_cons.1 hj with e | e
        · subst e
          exact Int.not_lt.1 fun hlt => ha ⟨hP, hlt⟩
        · exact h3 j e hP
    · obtain ⟨i, hi, hP⟩ := h
      rcases List.mem_cons.1 hi with e | e
      · subst e
        refine ⟨i, by simp, hP, fun j hj hPj => ?_⟩
        rcases List.mem_cons.1 hj with e | e
        · rw [e]; omega
        · exact absurd ⟨j, e, hPj⟩ ho
      · exact absurd ⟨i, e, hP⟩ ho
theorem falls {z : Nat → Int} {room : Int} {n : Nat} {o : List Nat} {bs : List Int} {F : Nat → Int} {x : Int × Int} (hr : 1 ≤ room) (hz : ∀ i, 0 ≤ z i ∧ z i ≤ room) (hf : FF z room o bs F) (hp : o.Perm (List.range n)) (hd : o.Pairwise fun a b => z b ≤ z a) (hP : PB z room n (2 ^ n - 1) x) : 2 * (bs.length : Int) ≤ 3 * x.1 := by
  have hnd : o.Nodup := hp.nodup_iff.2 List.nodup_range
  have hI := hf.fi hz hnd
  have hA := hf.ahead hz hnd hd
  have hxb := hP.bd
  by_cases h0 : bs.length = 0
  · omega
  have hn : n ≠ 0 := by
    intro e
    obtain ⟨i, hi, _⟩ := hI.used 0 (by omega)
    have := hp.mem_iff.1 hi
    rw [e] at this; simp at this
  have hx1 := fewest_pos hn hP
  obtain ⟨J, hJ⟩ : ∃ J, (2 * bs.length + 2) / 3 = J + 1 := ⟨(2 * bs.length + 2) / 3 - 1, by omega⟩
  have hJK : J < bs.length := by omega
  suffices hs : (J : Int) + 1 ≤ x.1 by omega
  by_cases hbig : ∃ i, i ∈ o ∧ F i = (J : Int) ∧ room < 2 * z i
  · -- each box up to J holds a large thing
    obtain ⟨i, hi, hFi, hzi⟩ := hbig
    have hex : ∀ c : Nat, c < J + 1 → ∃ i', i' ∈ o ∧ F i' = (c : Int) ∧ room < 2 * z i' := fun c hc => by
      by_cases e : c = J
      · exact ⟨i, hi, by rw [e]; exact hFi, hzi⟩
      · obtain ⟨i', h1, h2, h3⟩ := hA i hi c (by omega)
        exact ⟨i', h1, h2, by omega⟩
    have hcnt : ∀ m : Nat, m ≤ J + 1 → (m : Int) ≤ sm o fun i => if F i < (m : Int) then bigZ z room i else 0 := by
      intro m
      induction m with
      | zero =>
        intro _
        have := sm_le (o := o) (f := fun _ => 0) (g := fun i => if F i < ((0 : Nat) : Int) then bigZ z room i else 0) (fun i hi => by have := hI.rng i hi; rw [if_neg (by omega)]; exact Int.le_refl _)
        rwa [show sm o (fun _ => 0) = 0 from sum_zero o] at this
      | succ m ih =>
        intro hm
        have h1 := ih (by omega)
        obtain ⟨i', h2, h3, h4⟩ := hex m (by omega)
        have h5 := sm_lt (o := o) (f := fun i => if F i < (m : Int) then bigZ z room i else 0) (g := fun i => if F i < ((m + 1 : Nat) : Int) then bigZ z room i else 0) (fun i _ => by
          have : 0 ≤ bigZ z room i := by unfold bigZ; split <;> omega
          split <;> split <;> omega) ⟨i', h2, by
          rw [if_neg (by omega), if_pos (by omega)]
          unfold bigZ; rw [if_pos h4]; omega⟩
        omega
    have h1 := hcnt (J + 1) (Nat.le_refl _)
    have h2 := sm_le (o := o) (f := fun i => if F i < ((J + 1 : Nat) : Int) then bigZ z room i else 0) (g := bigZ z room) (fun i _ => by
      have : 0 ≤ bigZ z room i := by unfold bigZ; split <;> omega
      split <;> omega)
    have h3 : sm o (bigZ z room) = smW (bigZ z room) (2 ^ n - 1) n := by rw [smW_full _ n n (Nat.le_refl _)]; exact perm_sum (hp.map _)
    have h4 := hP.bg (by
      have := Nat.pow_le_pow_right (n := 2) (by omega) (show 1 ≤ n by omega)
      omega)
    omega
  · -- none at J, and so none behind it
    have hsmall : ∀ i, i ∈ o → (J : Int) ≤ F i → 2 * z i ≤ room := fun i hi hF => by
      by_cases e : F i = (J : Int)
      · exact Int.not_lt.1 fun h => hbig ⟨i, hi, e, h⟩
      · obtain ⟨i', h1, h2, h3⟩ := hA i hi J (by omega)
        have := Int.not_lt.1 fun h => hbig ⟨i', h1, h2, h⟩
        omega
    by_cases hJ0 : J = 0
    · omega
    have hcount : ∀ c : Nat, c < bs.length → 1 ≤ ldO (fun _ => 1) F o c := fun c hc => by
      obtain ⟨i, hi, e⟩ := hI.used c hc
      have := sm_lt (o := o) (f := fun _ => 0) (g := fun i => if F i = (c : Int) then 1 else 0) (fun i _ => by split <;> omega) ⟨i, hi, by rw [if_pos e]; omega⟩
      rw [show sm o (fun _ => 0) = 0 from sum_zero o] at this
      rw [show ldO (fun _ => 1) F o (c : Int) = sm o (fun i => if F i = (c : Int) then 1 else 0) from rfl]
      omega
    have htwo : ∀ c : Nat, J ≤ c → c + 1 < bs.length → 2 ≤ ldO (fun _ => 1) F o c := fun c hc hl => by
      obtain ⟨t, ht, et⟩ := hI.used (bs.length - 1) (by omega)
      have h1 := hI.no t ht c (by omega)
      have h2 := hsmall t ht (by omega)
      have h3 := hI.ld c (by omega)
      have h4 := sm_le (o := o) (f := fun i => 2 * (if F i = (c : Int) then z i else 0)) (g := fun i => room * (if F i = (c : Int) then 1 else 0)) (fun i hi => by
        split
        · have := hsmall i hi (by omega); omega
        · simp)
      rw [sm_mul, sm_mul] at h4
      have h5 : room * 1 < room * sm o (fun i => if F i = (c : Int) then 1 else 0) := by
        rw [show ldO z F o (c : Int) = sm o (fun i => if F i = (c : Int) then z i else 0) from rfl] at h3
        omega
      have := Int.lt_of_mul_lt_mul_left h5 (by omega)
      rw [show ldO (fun _ => 1) F o (c : Int) = sm o (fun i => if F i = (c : Int) then 1 else 0) from rfl]
      omega
    have hstep : ∀ c : Nat, sm o (fun i => if (c : Int) ≤ F i then 1 else 0) = ldO (fun _ => 1) F o c + sm o (fun i => if ((c + 1 : Nat) : Int) ≤ F i then 1 else 0) := fun c => by
      rw [show ldO (fun _ => 1) F o (c : Int) = sm o (fun i => if F i = (c : Int) then 1 else 0) from rfl, ← sm_add]
      apply sm_congr
      intro i _
      split <;> split <;> split <;> omega
    have hM : ∀ d : Nat, J + d + 1 ≤ bs.length → 2 * (d : Int) + 1 ≤ sm o (fun i => if ((bs.length - 1 - d : Nat) : Int) ≤ F i then 1 else 0) := by
      intro d
      induction d with
      | zero =>
        intro _
        rw [hstep]
        have h1 := hcount (bs.length - 1 - 0) (by omega)
        have h2 : 0 ≤ sm o (fun i => if ((bs.length - 1 - 0 + 1 : Nat) : Int) ≤ F i then 1 else 0) := by
          have := sm_le (o := o) (f := fun _ => 0) (g := fun i => if ((bs.length - 1 - 0 + 1 : Nat) : Int) ≤ F i then 1 else 0) (fun i _ => by split <;> omega)
          rwa [show sm o (fun _ => 0) = 0 from sum_zero o] at this
        omega
      | succ d ih =>
        intro hd'
        have h1 := ih (by omega)
        rw [hstep, show bs.length - 1 - (d + 1) + 1 = bs.length - 1 - d by omega]
        have h2 := htwo (bs.length - 1 - (d + 1)) (by omega) (by omega)
        omega
    have hMJ := hM (bs.length - 1 - J) (by omega)
    rw [show bs.length - 1 - (bs.length - 1 - J) = J by omega] at hMJ
    obtain ⟨tl, htl, etl⟩ := hI.used (bs.length - 1) (by omega)
    obtain ⟨t, ht, htJ, hmin⟩ := least_of z (fun i => (J : Int) ≤ F i) o ⟨tl, htl, by omega⟩
    have hzt := hz t
    -- the boxes before J
    have hlow : ∀ m : Nat, m ≤ J → (m : Int) * (room + 1 - z t) ≤ sm o (fun i => if F i < (m : Int) then z i else 0) := by
      intro m
      induction m with
      | zero =>
        intro _
        have := sm_le (o := o) (f := fun _ => 0) (g := fun i => if F i < ((0 : Nat) : Int) then z i else 0) (fun i _ => by have := hz i; split <;> omega)
        rw [show sm o (fun _ => 0) = 0 from sum_zero o] at this
        simpa using this
      | succ m ih =>
        intro hm
        have h1 := ih (by omega)
        have h2 := hI.no t ht m (by omega)
        have h3 := hI.ld m (by omega)
        have h4 : sm o (fun i => if F i < ((m + 1 : Nat) : Int) then z i else 0) = sm o (fun i => if F i < (m : Int) then z i else 0) + ldO z F o m := by
          rw [show ldO z F o (m : Int) = sm o (fun i => if F i = (m : Int) then z i else 0) from rfl, ← sm_add]
          apply sm_congr
          intro i _
          split <;> split <;> split <;> omega
        rw [h4, show ((m + 1 : Nat) : Int) * (room + 1 - z t) = (m : Int) * (room + 1 - z t) + (room + 1 - z t) by rw [Int.natCast_add, Int.add_mul]; simp]
        omega
    have hl := hlow J (Nat.le_refl _)
    have hh : z t * sm o (fun i => if (J : Int) ≤ F i then 1 else 0) ≤ sm o (fun i => if (J : Int) ≤ F i then z i else 0) := by
      rw [← sm_mul]
      apply sm_le
      intro i hi
      split
      · have := hmin i hi (by assumption); omega
      · simp
    have hall : sm o z = sm o (fun i => if F i < (J : Int) then z i else 0) + sm o (fun i => if (J : Int) ≤ F i then z i else 0) := by
      rw [← sm_add]
      apply sm_congr
      intro i _
      split <;> split <;> omega
    have hsum := fewest_sum hP
    rw [← perm_sum (hp.map z)] at hsum
    have hm2 : z t * (J : Int) ≤ z t * sm o (fun i => if (J : Int) ≤ F i then 1 else 0) := Int.mul_le_mul_of_nonneg_left (by omega) hzt.1
    have e1 : (J : Int) * (room + 1 - z t) = (J : Int) * room + J - z t * J := by
      rw [Int.mul_sub, Int.mul_add, Int.mul_comm (z t) J]; omega
    have hfin : (J : Int) * room < x.1 * room := by
      unfold sm at hall
      unfold sm at hl hh hm2
      omega
    have := Int.lt_of_mul_lt_mul_right hfin (by omega)
    omega
end Go.Proofs.YtefkciboicmoaaaDoor
