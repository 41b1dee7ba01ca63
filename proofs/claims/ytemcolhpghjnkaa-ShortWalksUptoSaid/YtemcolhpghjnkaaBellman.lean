/- Bellman and Ford: the plain law. Arrays are functions; arcs as in Net. -/
import Derived.Test.YtemcolhpghjnkaaNet
namespace Go.Proofs.Ytemcolhpghjnkaa
open Go.RowKit

def upd {α : Type} (F : Nat → α) (j : Nat) (v : α) : Nat → α := fun i => if i = j then v else F i
theorem upd_same {α : Type} (F : Nat → α) (j : Nat) (v : α) : upd F j v j = v := by simp [upd]
theorem upd_other {α : Type} (F : Nat → α) {j i : Nat} (v : α) (h : i ≠ j) : upd F j v i = F i := by simp [upd, h]
def aF (a : Arc) : Nat := a.1.toNat
def aT (a : Arc) : Nat := a.2.1.toNat
def aW (a : Arc) : Int := a.2.2.2
structure BS where
  F : Nat → Int
  T : Nat → Bool
  b : Bool
def bett (S : BS) (a : Arc) : Bool := S.T (aF a) && (!S.T (aT a) || decide (S.F (aF a) + aW a < S.F (aT a)))
def relax (S : BS) (a : Arc) : BS := if bett S a then ⟨upd S.F (aT a) (S.F (aF a) + aW a), upd S.T (aT a) true, true⟩ else S
def sweep (S : BS) (l : List Arc) : BS := l.foldl relax S
def begun (S : BS) : BS := ⟨S.F, S.T, false⟩
/-- so many rounds at most; true: nothing got better in the last one -/
def bfRun (l : List Arc) : Nat → BS → BS × Bool
  | 0, S => (S, false)
  | k + 1, S => if (sweep (begun S) l).b then bfRun l k (sweep (begun S) l) else (sweep (begun S) l, true)
def bfInit (s : Nat) : BS := ⟨fun _ => 0, fun i => decide (i = s), false⟩

theorem sweep_snoc (S : BS) (l : List Arc) (a : Arc) : sweep S (l ++ [a]) = relax (sweep S l) a := by simp [sweep]
/-- an invariant that a step keeps -/
theorem sweep_inv {I : BS → Prop} {l : List Arc} (h : ∀ S a, a ∈ l → I S → I (relax S a)) : ∀ {S : BS}, I S → I (sweep S l) := by
  induction l with
  | nil => exact fun h => h
  | cons a r ih => exact fun {S} hS => ih (fun S b hb => h S b (List.mem_cons_of_mem _ hb)) (h S a (List.mem_cons_self ..) hS)
theorem bfRun_inv {I : BS → Prop} {l : List Arc} (h : ∀ S a, a ∈ l → I S → I (relax S a)) (hb : ∀ S, I S → I (begun S)) : ∀ (k : Nat) {S : BS}, I S → I (bfRun l k S).1
  | 0, _, hS => hS
  | k + 1, S, hS => by
    rw [bfRun]
    split
    · exact bfRun_inv h hb k (sweep_inv h (hb S hS))
    · exact sweep_inv h (hb S hS)
/- bounds -/
def Bd (M : Int) (S : BS) : Prop := ∀ i, -M ≤ S.F i ∧ S.F i ≤ M
theorem Bd.relax {M : Int} {S : BS} {a : Arc} (h : Bd M S) (h0 : -1048576 ≤ aW a) (h1 : aW a ≤ 1048576) : Bd (M + 1048576) (relax S a) := by
  intro i
  unfold Go.Proofs.Ytemcolhpghjnkaa.relax
  split
  · have := h (aF a)
    have h2 := h i
    simp only [upd]
    split <;> omega
  · have := h i; omega
theorem Bd.mono {M M' : Int} {S : BS} (h : Bd M S) (hM : M ≤ M') : Bd M' S := fun i => by have := h i; omega
/- going down -/
def Dn (S S' : BS) : Prop := ∀ i, S.T i = true → S'.T i = true ∧ S'.F i ≤ S.F i
theorem Dn.refl (S : BS) : Dn S S := fun _ h => ⟨h, Int.le_refl _⟩
theorem Dn.trans {A B C : BS} (h : Dn A B) (h' : Dn B C) : Dn A C := fun i hi => ⟨(h' i (h i hi).1).1, Int.le_trans (h' i (h i hi).1).2 (h i hi).2⟩
theorem Dn.relax (S : BS) (a : Arc) : Dn S (relax S a) := by
  intro i hi
  unfold Go.Proofs.Ytemcolhpghjnkaa.relax
  split
  · rename_i hb
    by_cases h : i = aT a
    · subst h
      simp only [upd_same]
      refine ⟨trivial, ?_⟩
      unfold bett at hb
      rw [hi] at hb
      simp at hb
      omega
    · simp only [upd_other _ _ h]
      exact ⟨hi, Int.le_refl _⟩
  · exact ⟨hi, Int.le_refl _⟩
theorem Dn.sweep (S : BS) (l : List Arc) : Dn S (sweep S l) := by
  induction l generalizing S with
  | nil => exact Dn.refl S
  | cons a r ih => exact (Dn.relax S a).trans (ih _)
/- each is made by some arc -/
def Sup (l : List Arc) (s : Nat) (S : BS) : Prop := S.T s = true ∧ S.F s ≤ 0 ∧ ∀ t, S.T t = true → t = s ∨ ∃ a ∈ l, aT a = t ∧ S.T (aF a) = true ∧ S.F (aF a) + aW a ≤ S.F t
theorem Sup.relax {l : List Arc} {s : Nat} {S : BS} {a : Arc} (ha : a ∈ l) (hne : aF a ≠ aT a) (h : Sup l s S) : Sup l s (relax S a) := by
  obtain ⟨h1, h2, h3⟩ := h
  have hd := Dn.relax S a
  refine ⟨(hd s h1).1, Int.le_trans (hd s h1).2 h2, fun t ht => ?_⟩
  by_cases hb : bett S a = true
  · by_cases htt : t = aT a
    · subst htt
      refine .inr ⟨a, ha, rfl, ?_, ?_⟩
      · have hf : S.T (aF a) = true := by unfold bett at hb; simp at hb; exact hb.1
        exact (hd _ hf).1
      · unfold Go.Proofs.Ytemcolhpghjnkaa.relax
        rw [if_pos hb]
        simp only [upd_same, upd_other _ _ hne]
        exact Int.le_refl _
    · have e : (Go.Proofs.Ytemcolhpghjnkaa.relax S a).T t = S.T t ∧ (Go.Proofs.Ytemcolhpghjnkaa.relax S a).F t = S.F t := by
        unfold Go.Proofs.Ytemcolhpghjnkaa.relax; rw [if_pos hb]; simp only [upd_other _ _ htt]; exact ⟨trivial, trivial⟩
      rw [e.1] at ht
      rcases h3 t ht with h | ⟨c, hc, h4, h5, h6⟩
      · exact .inl h
      · refine .inr ⟨c, hc, h4, (hd _ h5).1, ?_⟩
        have := (hd _ h5).2
        rw [e.2]; omega
  · have e : Go.Proofs.Ytemcolhpghjnkaa.relax S a = S := by unfold Go.Proofs.Ytemcolhpghjnkaa.relax; rw [if_neg hb]
    rw [e] at ht ⊢
    exact h3 t ht
/- no less than what no arc makes shorter -/
def Pot (l : List Arc) (s : Nat) (R : Nat → Prop) (P : Nat → Int) : Prop := R s ∧ P s ≤ 0 ∧ ∀ a ∈ l, R (aF a) → R (aT a) ∧ P (aT a) ≤ P (aF a) + aW a
def Over (R : Nat → Prop) (P : Nat → Int) (S : BS) : Prop := ∀ i, S.T i = true → R i ∧ P i ≤ S.F i
theorem Over.relax {l : List Arc} {s : Nat} {R : Nat → Prop} {P : Nat → Int} (hp : Pot l s R P) {S : BS} {a : Arc} (ha : a ∈ l) (h : Over R P S) : Over R P (relax S a) := by
  intro i hi
  by_cases hb : bett S a = true
  · unfold Go.Proofs.Ytemcolhpghjnkaa.relax at hi ⊢
    rw [if_pos hb] at hi ⊢
    by_cases hit : i = aT a
    · subst hit
      simp only [upd_same]
      have hf : S.T (aF a) = true := by unfold bett at hb; simp at hb; exact hb.1
      have h1 := h _ hf
      have h2 := hp.2.2 a ha h1.1
      exact ⟨h2.1, by omega⟩
    · simp only [upd_other _ _ hit] at hi ⊢
      exact h i hi
  · unfold Go.Proofs.Ytemcolhpghjnkaa.relax at hi ⊢
    rw [if_neg hb] at hi ⊢
    exact h i hi
theorem Over.init {l : List Arc} {s : Nat} {R : Nat → Prop} {P : Nat → Int} (hp : Pot l s R P) : Over R P (bfInit s) := by
  intro i hi
  simp [bfInit] at hi
  subst hi
  exact ⟨hp.1, hp.2.1⟩
theorem Over.run {l : List Arc} {s : Nat} {R : Nat → Prop} {P : Nat → Int} (hp : Pot l s R P) (k : Nat) : Over R P (bfRun l k (bfInit s)).1 :=
  bfRun_inv (I := Over R P) (fun _ _ ha h => Over.relax hp ha h) (fun _ h => h) k (Over.init hp)
theorem Sup.run {l : List Arc} {s : Nat} (hne : ∀ a ∈ l, aF a ≠ aT a) (k : Nat) : Sup l s (bfRun l k (bfInit s)).1 :=
  bfRun_inv (I := Sup l s) (fun _ a ha h => Sup.relax ha (hne a ha) h) (fun _ h => h) k ⟨by simp [bfInit], Int.le_refl _, fun t ht => .inl (by simpa [bfInit] using ht)⟩
/- where nothing gets better -/
theorem relax_b {S : BS} {a : Arc} (h : (relax S a).b = false) : relax S a = S ∧ bett S a = false := by
  unfold relax at h ⊢
  by_cases hb : bett S a = true
  · rw [if_pos hb] at h; cases h
  · rw [if_neg hb]; exact ⟨rfl, by simpa using hb⟩
theorem relax_true {S : BS} {a : Arc} (h : S.b = true) : (relax S a).b = true := by
  unfold relax; split
  · rfl
  · exact h
theorem sweep_true {l : List Arc} : ∀ {S : BS}, S.b = true → (sweep S l).b = true := by
  induction l with
  | nil => exact fun h => h
  | cons a r ih => exact fun h => ih (relax_true h)
theorem sweep_still {l : List Arc} : ∀ {S : BS}, (sweep S l).b = false → sweep S l = S ∧ ∀ a ∈ l, bett S a = false := by
  induction l with
  | nil => exact fun {S} _ => ⟨rfl, by simp⟩
  | cons a r ih =>
    intro S h
    have h0 : (relax S a).b = false := by
      cases hq : (relax S a).b
      · rfl
      · have := sweep_true (l := r) hq
        rw [show sweep S (a :: r) = sweep (relax S a) r from rfl, this] at h
        cases h
    obtain ⟨e1, e2⟩ := relax_b h0
    have h' : (sweep S r).b = false := by rw [show sweep S (a :: r) = sweep (relax S a) r from rfl, e1] at h; exact h
    obtain ⟨e3, e4⟩ := ih h'
    refine ⟨by rw [show sweep S (a :: r) = sweep (relax S a) r from rfl, e1]; exact e3, fun c hc => ?_⟩
    rcases List.mem_cons.1 hc with rfl | hc
    · exact e2
    · exact e4 c hc
def Still (l : List Arc) (S : BS) : Prop := ∀ a ∈ l, S.T (aF a) = true → S.T (aT a) = true ∧ S.F (aT a) ≤ S.F (aF a) + aW a
theorem still_of {l : List Arc} {S : BS} (h : ∀ a ∈ l, bett S a = false) : Still l S := by
  intro a ha hf
  have := h a ha
  unfold bett at this
  rw [hf] at this
  simp at this
  exact this
theorem bfRun_still {l : List Arc} : ∀ (k : Nat) {S : BS}, (bfRun l k S).2 = true → Still l (bfRun l k S).1
  | 0, _, h => by cases h
  | k + 1, S, h => by
    rw [bfRun] at h ⊢
    by_cases hb : (sweep (begun S) l).b = true
    · rw [if_pos hb] at h ⊢; exact bfRun_still k h
    · rw [if_neg hb]
      obtain ⟨e1, e2⟩ := sweep_still (by simpa using hb)
      show Still l (sweep (begun S) l)
      rw [e1]
      exact still_of e2
theorem far_zero {l : List Arc} {s k : Nat} (hne : ∀ a ∈ l, aF a ≠ aT a) (h : (bfRun l k (bfInit s)).2 = true) : (bfRun l k (bfInit s)).1.F s = 0 := by
  have h1 := Sup.run (s := s) hne k
  have h2 := bfRun_still k h
  have h3 := Over.run (l := l) (s := s) (R := fun i => (bfRun l k (bfInit s)).1.T i = true) (P := fun i => (bfRun l k (bfInit s)).1.F i - (bfRun l k (bfInit s)).1.F s) ⟨h1.1, by dsimp only; omega, fun a ha hf => ⟨(h2 a ha hf).1, by have := (h2 a ha hf).2; dsimp only; omega⟩⟩ k s h1.1
  have := h1.2.1
  dsimp only at h3
  omega
/- by steps: the reference -/
def far : Int := 1152921504606846976
def dstep (D : Nat → Int) (n : Nat → Int) (a : Arc) : Nat → Int := if D (aF a) < far ∧ D (aF a) + aW a < n (aT a) then upd n (aT a) (D (aF a) + aW a) else n
def dround (l : List Arc) (D : Nat → Int) : Nat → Int := l.foldl (dstep D) D
def dinit (s : Nat) : Nat → Int := fun i => if i = s then 0 else far
def reach (l : List Arc) (s : Nat) : Nat → Nat → Int
  | 0 => dinit s
  | k + 1 => dround l (reach l s k)
theorem dfold_le (D : Nat → Int) : ∀ (l : List Arc) (n : Nat → Int) (i : Nat), l.foldl (dstep D) n i ≤ n i
  | [], _, _ => Int.le_refl _
  | a :: r, n, i => by
    refine Int.le_trans (dfold_le D r (dstep D n a) i) ?_
    unfold dstep
    split
    · rename_i h
      by_cases hi : i = aT a
      · subst hi; simp only [upd_same]; omega
      · simp only [upd_other _ _ hi]; exact Int.le_refl _
    · exact Int.le_refl _
theorem dfold_arc (D : Nat → Int) : ∀ (l : List Arc) (n : Nat → Int) (a : Arc), a ∈ l → D (aF a) < far → l.foldl (dstep D) n (aT a) ≤ D (aF a) + aW a
  | [], _, _, h, _ => by cases h
  | b :: r, n, a, h, hf => by
    rcases List.mem_cons.1 h with rfl | h
    · refine Int.le_trans (dfold_le D r (dstep D n a) (aT a)) ?_
      unfold dstep
      by_cases hc : D (aF a) < far ∧ D (aF a) + aW a < n (aT a)
      · rw [if_pos hc, upd_same]; exact Int.le_refl _
      · rw [if_neg hc]; omega
    · exact dfold_arc D r _ a h hf
theorem dfold_src (D : Nat → Int) : ∀ (l : List Arc) (n : Nat → Int) (i : Nat), l.foldl (dstep D) n i = n i ∨ ∃ a ∈ l, aT a = i ∧ D (aF a) < far ∧ l.foldl (dstep D) n i = D (aF a) + aW a
  | [], _, _ => .inl rfl
  | b :: r, n, i => by
    rcases dfold_src D r (dstep D n b) i with h | ⟨a, ha, h1, h2, h3⟩
    · rw [List.foldl_cons, h]
      unfold dstep
      by_cases hc : D (aF b) < far ∧ D (aF b) + aW b < n (aT b)
      · rw [if_pos hc]
        by_cases hi : i = aT b
        · subst hi; exact .inr ⟨b, List.mem_cons_self .., rfl, hc.1, by rw [upd_same]⟩
        · rw [upd_other _ _ hi]; exact .inl rfl
      · rw [if_neg hc]; exact .inl rfl
    · exact .inr ⟨a, List.mem_cons_of_mem _ ha, h1, h2, h3⟩
theorem reach_bound {l : List Arc} (hl : ∀ a ∈ l, -1048576 ≤ aW a ∧ aW a ≤ 1048576) (s : Nat) : ∀ (k i : Nat), reach l s k i = far ∨ (-(k * 1048576 : Int) ≤ reach l s k i ∧ reach l s k i ≤ k * 1048576)
  | 0, i => by
    unfold reach dinit
    split
    · exact .inr ⟨by omega, by omega⟩
    · exact .inl rfl
  | k + 1, i => by
    unfold reach dround
    rcases dfold_src (reach l s k) l (reach l s k) i with h | ⟨a, ha, _, h2, h3⟩
    · rw [h]
      rcases reach_bound hl s k i with h | h
      · exact .inl h
      · exact .inr (by omega)
    · rw [h3]
      have := hl a ha
      rcases reach_bound hl s k (aF a) with h | h
      · omega
      · exact .inr (by omega)
/-- so many rounds, each of which makes something better -/
def bfIt (l : List Arc) : Nat → BS → BS
  | 0, S => S
  | k + 1, S => sweep (begun (bfIt l k S)) l
theorem bfIt_shift (l : List Arc) : ∀ (k : Nat) (S : BS), bfIt l k (sweep (begun S) l) = bfIt l (k + 1) S
  | 0, _ => rfl
  | k + 1, S => by rw [bfIt, bfIt_shift l k S]; rfl
theorem bfRun_false {l : List Arc} : ∀ (k : Nat) {S : BS}, (bfRun l k S).2 = false → ∀ r, r < k → (bfIt l (r + 1) S).b = true
  | 0, _, _, r, hr => by omega
  | k + 1, S, h, r, hr => by
    rw [bfRun] at h
    by_cases hb : (sweep (begun S) l).b = true
    · rw [if_pos hb] at h
      cases r with
      | zero => exact hb
      | succ r => rw [← bfIt_shift]; exact bfRun_false k h r (by omega)
    · rw [if_neg hb] at h; cases h
theorem sweep_arc {l : List Arc} : ∀ {S : BS} {a : Arc}, a ∈ l → S.T (aF a) = true → (sweep S l).T (aT a) = true ∧ (sweep S l).F (aT a) ≤ S.F (aF a) + aW a := by
  induction l with
  | nil => exact fun h => by cases h
  | cons b r ih =>
    intro S a ha hf
    rcases List.mem_cons.1 ha with rfl | ha
    · have hd := Dn.sweep (relax S a) r
      have h1 : (relax S a).T (aT a) = true ∧ (relax S a).F (aT a) ≤ S.F (aF a) + aW a := by
        by_cases hb : bett S a = true
        · unfold relax; rw [if_pos hb]; simp only [upd_same]; exact ⟨trivial, Int.le_refl _⟩
        · unfold relax; rw [if_neg hb]
          exact still_of (l := [a]) (S := S) (by simpa using hb) a (by simp) hf
      exact ⟨(hd _ h1.1).1, Int.le_trans (hd _ h1.1).2 h1.2⟩
    · have hd := Dn.relax S b _ hf
      have := ih ha hd.1
      exact ⟨this.1, Int.le_trans this.2 (by omega)⟩
theorem it_reach (l : List Arc) (s : Nat) : ∀ (k i : Nat), reach l s k i < far → (bfIt l k (bfInit s)).T i = true ∧ (bfIt l k (bfInit s)).F i ≤ reach l s k i
  | 0, i, h => by
    unfold reach dinit at h ⊢
    by_cases hi : i = s
    · subst hi; simp [bfIt, bfInit]
    · rw [if_neg hi] at h; omega
  | k + 1, i, h => by
    unfold reach dround at h ⊢
    unfold bfIt
    rcases dfold_src (reach l s k) l (reach l s k) i with e | ⟨a, ha, h1, h2, h3⟩
    · rw [e] at h ⊢
      have := it_reach l s k i h
      have hd := Dn.sweep (begun (bfIt l k (bfInit s))) l i this.1
      exact ⟨hd.1, Int.le_trans hd.2 this.2⟩
    · rw [h3]
      subst h1
      have := it_reach l s k (aF a) h2
      have hs := sweep_arc (S := begun (bfIt l k (bfInit s))) ha this.1
      exact ⟨hs.1, Int.le_trans hs.2 (by have := this.2; show (bfIt l k (bfInit s)).F (aF a) + aW a ≤ _; omega)⟩
theorem it_inv {I : BS → Prop} {l : List Arc} (h : ∀ S a, a ∈ l → I S → I (relax S a)) (hb : ∀ S, I S → I (begun S)) : ∀ (k : Nat) {S : BS}, I S → I (bfIt l k S)
  | 0, _, hS => hS
  | k + 1, _, hS => sweep_inv h (hb _ (it_inv h hb k hS))
theorem sweep_none {l : List Arc} : ∀ {S : BS}, S.b = false → (∀ a ∈ l, bett S a = false) → sweep S l = S := by
  induction l with
  | nil => exact fun _ _ => rfl
  | cons a r ih =>
    intro S hb h
    have e : relax S a = S := by unfold relax; rw [if_neg (by rw [h a (by simp)]; simp)]
    show sweep (relax S a) r = S
    rw [e]
    exact ih hb fun c hc => h c (List.mem_cons_of_mem _ hc)
/-- where it gets shorter still behind so many rounds, so it does by steps -/
theorem sinks {l : List Arc} {n s : Nat} (hl : ∀ a ∈ l, (-1048576 ≤ aW a ∧ aW a ≤ 1048576) ∧ aF a < n ∧ aT a < n) (hn : n ≤ 10) (h : (bfRun l (n + 1) (bfInit s)).2 = false) : ∃ i, i < n ∧ reach l s n i ≠ reach l s (n + 1) i := by
  refine Classical.byContradiction fun hno => ?_
  have he : ∀ i, i < n → reach l s n i = reach l s (n + 1) i := fun i hi => Classical.byContradiction fun hh => hno ⟨i, hi, hh⟩
  have hbd := reach_bound (fun a ha => (hl a ha).1) s
  have hstep : ∀ a ∈ l, reach l s n (aF a) < far → reach l s n (aT a) ≤ reach l s n (aF a) + aW a := by
    intro a ha hf
    rw [he (aT a) (hl a ha).2.2]
    exact dfold_arc (reach l s n) l (reach l s n) a ha hf
  have hs0 : reach l s n s ≤ 0 := by
    have : ∀ k, reach l s k s ≤ 0 := by
      intro k
      induction k with
      | zero => simp [reach, dinit]
      | succ k ih => exact Int.le_trans (dfold_le _ l _ s) ih
    exact this n
  have hp : Pot l s (fun i => reach l s n i < far) (reach l s n) := by
    refine ⟨by unfold far; omega, hs0, fun a ha hf => ⟨?_, hstep a ha hf⟩⟩
    have h1 := hstep a ha hf
    have h2 := (hl a ha).1
    unfold far at hf ⊢
    rcases hbd n (aF a) with h | h
    · unfold far at h; omega
    · omega
  have hov : Over (fun i => reach l s n i < far) (reach l s n) (bfIt l n (bfInit s)) := it_inv (I := Over _ _) (fun _ _ ha h => Over.relax hp ha h) (fun _ h => h) n (Over.init hp)
  have hb := bfRun_false (n + 1) h n (by omega)
  rw [bfIt, sweep_none rfl] at hb
  · cases hb
  · intro a ha
    unfold bett begun
    cases hT : (bfIt l n (bfInit s)).T (aF a)
    · simp
    · have h1 := hov _ hT
      have h2 := it_reach l s n _ h1.1
      have h3 := hp.2.2 a ha h1.1
      have h4 := it_reach l s n _ h3.1
      have h5 := hov _ h4.1
      simp only [h4.1]
      simp
      omega
end Go.Proofs.Ytemcolhpghjnkaa
