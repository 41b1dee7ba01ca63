/- span: the code of a tree, and the tree of a code: each is one thing. Plain. -/
import Derived.Test.YtdmbbddkbfknlaaDoorPruferLaw
namespace Go.Proofs.YtdmbbddkbfknlaaDoor

abbrev Srt (W : List Nat) : Prop := W.Pairwise (· < ·)
theorem Srt.nd {W : List Nat} (h : Srt W) : W.Nodup := h.imp fun h => Nat.ne_of_lt h
theorem Srt.erase {W : List Nat} (h : Srt W) (i : Nat) : Srt (W.erase i) := List.Pairwise.sublist (List.erase_sublist) h
/-- the least one for which it is so -/
theorem least_of {W : List Nat} {P : Nat → Prop} (h : ∃ i ∈ W, P i) : ∃ i ∈ W, P i ∧ ∀ k ∈ W, k < i → ¬ P k := by
  obtain ⟨i, hi, hp⟩ := h
  induction i using Nat.strongRecOn with
  | _ i ih =>
    by_cases h : ∃ k ∈ W, k < i ∧ P k
    · obtain ⟨k, hk, hlt, hpk⟩ := h
      exact ih k hlt hk hpk
    · exact ⟨i, hi, hp, fun k hk hlt hpk => h ⟨k, hk, hlt, hpk⟩⟩
theorem Tre.base {W : List Nat} {r : Nat → Nat → Bool} (h : Tre W r) (hs : Srt W) (h2 : W.length = 2) : PR W r [] := by
  match W, h2, hs, h with
  | [a, b], _, hs, h =>
    have hab : a < b := by
      have := (List.pairwise_cons.1 hs).1 b (by simp)
      exact this
    have hsup : ∀ x y, r x y = true → y ∈ [a, b] := fun x y hxy => h.su y x (h.sy x y hxy)
    have hrab : r a b = true := by
      have hg := h.cn b (by simp) a (by simp)
      cases hg with
      | refl => omega
      | @step z _ hg hz =>
        have hz1 := h.su z a hz
        have : z = a ∨ z = b := by simpa using hz1
        rcases this with rfl | rfl
        · rw [h.ir] at hz; cases hz
        · exact h.sy _ _ hz
    refine PR.base hab fun x y => ⟨fun hxy => ?_, ?_⟩
    · have h1 : x = a ∨ x = b := by simpa using h.su x y hxy
      have h2 : y = a ∨ y = b := by simpa using hsup x y hxy
      rcases h1 with rfl | rfl <;> rcases h2 with rfl | rfl
      · rw [h.ir] at hxy; cases hxy
      · exact .inl ⟨rfl, rfl⟩
      · exact .inr ⟨rfl, rfl⟩
      · rw [h.ir] at hxy; cases hxy
    · rintro (⟨rfl, rfl⟩ | ⟨rfl, rfl⟩)
      · exact hrab
      · exact h.sy _ _ hrab
/-- one step of the code: the least leaf goes -/
theorem Tre.step {W : List Nat} {r : Nat → Nat → Bool} (h : Tre W r) {i j : Nat} (hi : i ∈ W) (hl : ∀ y, r i y = true ↔ y = j) (hm : ∀ k ∈ W, k < i → ¬ Lf r k) {c : List Nat} (hc : PR (W.erase i) (cutN r i) c) : PR W r (j :: c) := by
  have hij : r i j = true := (hl j).2 rfl
  exact PR.step hi (h.su j i (h.sy _ _ hij)) (fun e => by rw [← e, h.ir] at hij; cases hij) hl (fun y => ⟨fun hy => (hl y).1 (h.sy _ _ hy), fun e => by subst e; exact h.sy _ _ hij⟩) hm hc
/-- a tree has one code -/
theorem PR.uniq {W : List Nat} {r : Nat → Nat → Bool} {c : List Nat} (h : PR W r c) : ∀ {c' : List Nat}, PR W r c' → c = c' := by
  induction h with
  | base hab hr =>
    intro c' h'
    have := h'.len
    cases c' with
    | nil => rfl
    | cons _ _ => simp at this
  | @step W r i j c hi hj hij h1 h2 hm hp ih =>
    intro c' h'
    cases h' with
    | base _ _ =>
      have := hp.len
      rw [List.length_erase_of_mem hi] at this
      simp at this
    | @step _ _ i' j' c' hi' hj' hij' h1' h2' hm' hp' =>
      have e : i = i' := by
        rcases Nat.lt_trichotomy i i' with h | h | h
        · exact absurd ⟨j, h1⟩ (hm' i hi h)
        · exact h
        · exact absurd ⟨j', h1'⟩ (hm i' hi' h)
      subst e
      have e2 : j = j' := (h1' j).1 ((h1 j).2 rfl)
      subst e2
      rw [ih hp']
/-- and a code has one tree -/
theorem PR.one {W : List Nat} {r : Nat → Nat → Bool} {c : List Nat} (h : PR W r c) : W.Nodup → ∀ {r' : Nat → Nat → Bool}, PR W r' c → ∀ x y, r x y = true ↔ r' x y = true := by
  induction h with
  | base hab hr =>
    intro _ r' h' x y
    cases h' with
    | base hab' hr' => rw [hr, hr']
  | @step W r i j c hi hj hij h1 h2 hm hp ih =>
    intro hnd r' h' x y
    have hA := PR.step hi hj hij h1 h2 hm hp
    cases h' with
    | @step _ _ i' _ _ hi' hj' hij' h1' h2' hm' hp' =>
      have hB := PR.step hi' hj' hij' h1' h2' hm' hp'
      have e : i = i' := by
        rcases Nat.lt_trichotomy i i' with h | h | h
        · exact absurd ((hB.leaf hnd i hi).1 ((hA.leaf hnd i hi).2 ⟨j, h1⟩)) (hm' i hi h)
        · exact h
        · exact absurd ((hA.leaf hnd i' hi').1 ((hB.leaf hnd i' hi').2 ⟨j, h1'⟩)) (hm i' hi' h)
      subst e
      by_cases ex : x = i
      · subst ex; rw [h1, h1']
      · by_cases ey : y = i
        · subst ey; rw [h2, h2']
        · have := ih (hnd.erase i) hp' x y
          rw [cutN_iff, cutN_iff] at this
          exact ⟨fun h => (this.1 ⟨h, ex, ey⟩).1, fun h => (this.2 ⟨h, ex, ey⟩).1⟩
/-- what is made of a code, edge by edge -/
inductive DR : List Nat → List Nat → List (Nat × Nat) → Prop
  | base {a b : Nat} : a < b → DR [a, b] [] [(a, b)]
  | step {W : List Nat} {i j : Nat} {c : List Nat} {es : List (Nat × Nat)} : i ∈ W → j ∈ W → i ∉ j :: c → (∀ k ∈ W, k < i → k ∈ j :: c) → DR (W.erase i) c es → DR W (j :: c) ((i, j) :: es)
def adjP (es : List (Nat × Nat)) (x y : Nat) : Bool := es.any fun e => (e.1 == x && e.2 == y) || (e.1 == y && e.2 == x)
theorem adjP_iff {es : List (Nat × Nat)} {x y : Nat} : adjP es x y = true ↔ (x, y) ∈ es ∨ (y, x) ∈ es := by
  unfold adjP
  rw [List.any_eq_true]
  constructor
  · rintro ⟨⟨a, b⟩, he, h⟩
    simp only [Bool.or_eq_true, Bool.and_eq_true, beq_iff_eq] at h
    rcases h with ⟨rfl, rfl⟩ | ⟨rfl, rfl⟩
    · exact .inl he
    · exact .inr he
  · rintro (h | h)
    · exact ⟨(x, y), h, by simp⟩
    · exact ⟨(y, x), h, by simp⟩
theorem DR.in_ {W c : List Nat} {es : List (Nat × Nat)} (h : DR W c es) : ∀ e ∈ es, e.1 ∈ W ∧ e.2 ∈ W ∧ e.1 ≠ e.2 := by
  induction h with
  | base hab =>
    intro e he
    obtain rfl : e = _ := by simpa using he
    exact ⟨by simp, by simp, Nat.ne_of_lt hab⟩
  | @step W i j c es hi hj hn _ _ ih =>
    intro e he
    rcases List.mem_cons.1 he with rfl | he
    · exact ⟨hi, hj, fun e => hn (by rw [show i = j from e]; simp)⟩
    · obtain ⟨h1, h2, h3⟩ := ih e he
      exact ⟨List.mem_of_mem_erase h1, List.mem_of_mem_erase h2, h3⟩
theorem DR.len {W c : List Nat} {es : List (Nat × Nat)} (h : DR W c es) : es.length + 1 = W.length ∧ W.length = c.length + 2 := by
  induction h with
  | base hab => exact ⟨rfl, rfl⟩
  | step hi _ _ _ _ ih =>
    rw [List.length_erase_of_mem hi] at ih
    have := List.length_pos_of_mem hi
    simp only [List.length_cons]; omega
/-- no edge comes twice -/
theorem DR.once {W c : List Nat} {es : List (Nat × Nat)} (h : DR W c es) : W.Nodup → es.Pairwise fun e f => ¬ ((e.1 = f.1 ∧ e.2 = f.2) ∨ (e.1 = f.2 ∧ e.2 = f.1)) := by
  induction h with
  | base hab => intro _; exact List.pairwise_singleton _ _
  | @step W i j c es hi hj hn _ hd ih =>
    intro hnd
    rw [List.pairwise_cons]
    refine ⟨fun f hf => ?_, ih (hnd.erase i)⟩
    obtain ⟨h1, h2, _⟩ := hd.in_ f hf
    rintro (⟨e, _⟩ | ⟨e, _⟩)
    · rw [← show i = f.1 from e] at h1; exact hnd.not_mem_erase h1
    · rw [← show i = f.2 from e] at h2; exact hnd.not_mem_erase h2
theorem DR.pr {W c : List Nat} {es : List (Nat × Nat)} (h : DR W c es) : W.Nodup → PR W (adjP es) c := by
  induction h with
  | base hab =>
    intro _
    refine PR.base hab fun x y => ?_
    rw [adjP_iff]; simp
    omega
  | @step W i j c es hi hj hn hlt hd ih =>
    intro hnd
    have hnd' := hnd.erase i
    have hp := ih hnd'
    have hij : i ≠ j := fun e => hn (by rw [e]; simp)
    have hni : ∀ y, adjP es i y = false := fun y => by
      cases hh : adjP es i y
      · rfl
      · exact absurd (hp.sup i y hh).1 hnd.not_mem_erase
    have hni2 : ∀ y, adjP es y i = false := fun y => by
      cases hh : adjP es y i
      · rfl
      · exact absurd (hp.sup y i hh).2 hnd.not_mem_erase
    have hadd : ∀ x y, adjP ((i, j) :: es) x y = true ↔ (x = i ∧ y = j) ∨ (x = j ∧ y = i) ∨ adjP es x y = true := fun x y => by
      rw [adjP_iff, adjP_iff]; simp
      constructor
      · rintro ((⟨rfl, rfl⟩ | h) | (⟨rfl, rfl⟩ | h))
        · exact .inl ⟨rfl, rfl⟩
        · exact .inr (.inr (.inl h))
        · exact .inr (.inl ⟨rfl, rfl⟩)
        · exact .inr (.inr (.inr h))
      · rintro (⟨rfl, rfl⟩ | ⟨rfl, rfl⟩ | h | h)
        · exact .inl (.inl ⟨rfl, rfl⟩)
        · exact .inr (.inl ⟨rfl, rfl⟩)
        · exact .inl (.inr h)
        · exact .inr (.inr h)
    have hcut : cutN (adjP ((i, j) :: es)) i = adjP es := by
      funext x y
      rw [Bool.eq_iff_iff, cutN_iff, hadd]
      constructor
      · rintro ⟨⟨rfl, _⟩ | ⟨_, rfl⟩ | h, h1, h2⟩
        · exact absurd rfl h1
        · exact absurd rfl h2
        · exact h
      · intro h
        refine ⟨.inr (.inr h), fun e => ?_, fun e => ?_⟩
        · rw [e, hni] at h; cases h
        · rw [e, hni2] at h; cases h
    refine PR.step hi hj hij (fun y => ?_) (fun y => ?_) (fun k hk hki hl => ?_) (by rw [hcut]; exact hp)
    · rw [hadd, hni]
      constructor
      · rintro (⟨_, h⟩ | ⟨h, _⟩ | h)
        · exact h
        · exact absurd h hij
        · cases h
      · exact fun h => .inl ⟨rfl, h⟩
    · rw [hadd, hni2]
      constructor
      · rintro (⟨_, h⟩ | ⟨h, _⟩ | h)
        · exact absurd h hij
        · exact h
        · cases h
      · exact fun h => .inr (.inl ⟨h, rfl⟩)
    · have hkc := hlt k hk hki
      have hke : k ≠ i := by omega
      have hk' : k ∈ W.erase i := (List.mem_erase_of_ne hke).2 hk
      obtain ⟨z, hz⟩ := hl
      by_cases ek : k = j
      · subst ek
        obtain ⟨t, ht⟩ := hp.some k hk'
        have e1 := (hz i).1 ((hadd _ _).2 (.inr (.inl ⟨rfl, rfl⟩)))
        have e2 := (hz t).1 ((hadd _ _).2 (.inr (.inr ht)))
        rw [← e1] at e2
        subst e2
        rw [hni2] at ht; cases ht
      · have hkc' : k ∈ c := by
          rcases List.mem_cons.1 hkc with h | h
          · exact absurd h ek
          · exact h
        refine ((hp.leaf hnd' k hk').2 ⟨z, fun y => ?_⟩) hkc'
        rw [← hz, hadd]
        constructor
        · exact fun h => .inr (.inr h)
        · rintro (⟨h, _⟩ | ⟨h, _⟩ | h)
          · exact absurd h hke
          · exact absurd h ek
          · exact h
end Go.Proofs.YtdmbbddkbfknlaaDoor
