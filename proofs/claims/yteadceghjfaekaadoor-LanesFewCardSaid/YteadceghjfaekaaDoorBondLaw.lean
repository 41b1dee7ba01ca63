/- BERGE, TUTTE (the easy half): plain. Bonds within a set of nodes. -/
import Derived.Test.YteadceghjfaekaaDoorBase
namespace Go.Proofs.YteadceghjfaekaaDoor

abbrev VS := Nat → Bool
def rmv (P : VS) (i : Nat) : VS := fun k => P k && !decide (k = i)
theorem rmv_at {P : VS} {i k : Nat} : rmv P i k = true ↔ P k = true ∧ k ≠ i := by simp [rmv]
theorem rmv_comm (P : VS) (i j : Nat) : rmv (rmv P i) j = rmv (rmv P j) i := by
  funext k
  simp only [rmv, Bool.and_assoc, Bool.and_comm (!decide (k = i))]
def eA (e : Int × Int × Int) : Nat := e.1.toNat
def eB (e : Int × Int × Int) : Nat := e.2.1.toNat
/-- c edges of some, no two of which share a node, all of them within P -/
inductive Bd : List (Int × Int × Int) → VS → Nat → Prop
  | nil {P : VS} : Bd [] P 0
  | skip {e : Int × Int × Int} {es : List (Int × Int × Int)} {P : VS} {c : Nat} : Bd es P c → Bd (e :: es) P c
  | take {e : Int × Int × Int} {es : List (Int × Int × Int)} {P : VS} {c : Nat} : P (eA e) = true → P (eB e) = true → eA e ≠ eB e → Bd es (rmv (rmv P (eA e)) (eB e)) c → Bd (e :: es) P (c + 1)
theorem Bd.mono {es : List (Int × Int × Int)} {P Q : VS} {c : Nat} (h : Bd es P c) (hPQ : ∀ k, P k = true → Q k = true) : Bd es Q c := by
  induction h generalizing Q with
  | nil => exact .nil
  | skip _ ih => exact .skip (ih hPQ)
  | take h1 h2 h3 _ ih =>
    refine .take (hPQ _ h1) (hPQ _ h2) h3 (ih fun k hk => ?_)
    rw [rmv_at, rmv_at] at hk ⊢
    exact ⟨⟨hPQ k hk.1.1, hk.1.2⟩, hk.2⟩
theorem Bd.zero (es : List (Int × Int × Int)) (P : VS) : Bd es P 0 := by
  induction es with
  | nil => exact .nil
  | cons e es ih => exact .skip ih
/-- have two nodes an edge? -/
def EdgeOf (es : List (Int × Int × Int)) (i j : Nat) : Prop := ∃ e ∈ es, (eA e = i ∧ eB e = j) ∨ (eA e = j ∧ eB e = i)
theorem EdgeOf.cons {es : List (Int × Int × Int)} {e : Int × Int × Int} {i j : Nat} (h : EdgeOf es i j) : EdgeOf (e :: es) i j := by
  obtain ⟨e', h1, h2⟩ := h
  exact ⟨e', List.mem_cons_of_mem _ h1, h2⟩
/-- a node is left out, or paired -/
theorem Bd.split {es : List (Int × Int × Int)} {P : VS} {c : Nat} (h : Bd es P c) (i : Nat) : Bd es (rmv P i) c ∨ ∃ j c', c = c' + 1 ∧ P i = true ∧ P j = true ∧ j ≠ i ∧ EdgeOf es i j ∧ Bd es (rmv (rmv P i) j) c' := by
  induction h with
  | nil => exact .inl .nil
  | skip _ ih =>
    rcases ih with ih | ⟨j, c', h1, h2, h3, h4, h5, h6⟩
    · exact .inl (.skip ih)
    · exact .inr ⟨j, c', h1, h2, h3, h4, h5.cons, .skip h6⟩
  | @take e es P c h1 h2 h3 hB ih =>
    by_cases ha : eA e = i
    · subst ha
      exact .inr ⟨eB e, c, rfl, h1, h2, h3.symm, ⟨e, by simp, .inl ⟨rfl, rfl⟩⟩, .skip hB⟩
    · by_cases hb : eB e = i
      · subst hb
        exact .inr ⟨eA e, c, rfl, h2, h1, h3, ⟨e, by simp, .inr ⟨rfl, rfl⟩⟩, .skip (by rw [rmv_comm]; exact hB)⟩
      · rcases ih with ih | ⟨j, c', k1, k2, k3, k4, k5, k6⟩
        · left
          refine .take (rmv_at.2 ⟨h1, ha⟩) (rmv_at.2 ⟨h2, hb⟩) h3 ?_
          rw [rmv_comm (rmv P (eA e)), rmv_comm P] at ih
          exact ih
        · right
          subst k1
          rw [rmv_at, rmv_at] at k2 k3
          refine ⟨j, c' + 1, rfl, k2.1.1, k3.1.1, k4, k5.cons, ?_⟩
          refine .take (rmv_at.2 ⟨rmv_at.2 ⟨h1, ha⟩, fun e => k3.1.2 e.symm⟩) (rmv_at.2 ⟨rmv_at.2 ⟨h2, hb⟩, fun e => k3.2 e.symm⟩) h3 (k6.mono fun k hk => ?_)
          simp only [rmv_at] at hk ⊢
          exact ⟨⟨⟨⟨hk.1.1.1.1, hk.1.2⟩, hk.2⟩, hk.1.1.1.2⟩, hk.1.1.2⟩
/-- an edge more -/
theorem Bd.front {es : List (Int × Int × Int)} {P : VS} {c i j : Nat} (he : EdgeOf es i j) (hi : P i = true) (hj : P j = true) (hij : j ≠ i) (h : Bd es (rmv (rmv P i) j) c) : Bd es P (c + 1) := by
  induction es generalizing P c with
  | nil => obtain ⟨e, h1, _⟩ := he; cases h1
  | cons e es ih =>
    by_cases hhead : (eA e = i ∧ eB e = j) ∨ (eA e = j ∧ eB e = i)
    · -- the head itself: what is left can't have it
      have htail : Bd es (rmv (rmv P i) j) c := by
        cases h with
        | skip h => exact h
        | take h1 h2 _ _ =>
          simp only [rmv_at] at h1 h2
          rcases hhead with ⟨e1, e2⟩ | ⟨e1, e2⟩
          · exact absurd e1 h1.1.2
          · exact absurd e1 h1.2
      rcases hhead with ⟨rfl, rfl⟩ | ⟨rfl, rfl⟩
      · exact .take hi hj hij.symm htail
      · exact .take hj hi hij (by rw [rmv_comm]; exact htail)
    · have he' : EdgeOf es i j := by
        obtain ⟨e', h1, h2⟩ := he
        rcases List.mem_cons.1 h1 with rfl | h1
        · exact absurd h2 hhead
        · exact ⟨e', h1, h2⟩
      cases h with
      | skip h => exact .skip (ih he' hi hj h)
      | take h1 h2 h3 h4 =>
        simp only [rmv_at] at h1 h2
        refine .take h1.1.1 h2.1.1 h3 (ih he' (rmv_at.2 ⟨rmv_at.2 ⟨hi, fun e => h1.1.2 e.symm⟩, fun e => h2.1.2 e.symm⟩) (rmv_at.2 ⟨rmv_at.2 ⟨hj, fun e => h1.2 e.symm⟩, fun e => h2.2 e.symm⟩) (h4.mono fun k hk => ?_))
        simp only [rmv_at] at hk ⊢
        exact ⟨⟨⟨⟨hk.1.1.1.1, hk.1.2⟩, hk.2⟩, hk.1.1.1.2⟩, hk.1.1.2⟩
/-- as many as can be -/
structure IsMM (es : List (Int × Int × Int)) (P : VS) (c : Nat) : Prop where
  has : Bd es P c
  most : ∀ c', Bd es P c' → c' ≤ c
theorem IsMM.same {es : List (Int × Int × Int)} {P : VS} {c c' : Nat} (h : IsMM es P c) (h' : IsMM es P c') : c = c' :=
  Nat.le_antisymm (h'.most _ h.has) (h.most _ h'.has)
theorem IsMM.none {es : List (Int × Int × Int)} {P : VS} (h : ∀ k, P k = false) : IsMM es P 0 :=
  ⟨.zero es P, fun c' hc => by
    induction hc with
    | nil => exact Nat.le_refl _
    | skip _ ih => exact ih h
    | take h1 _ _ _ _ => rw [h] at h1; cases h1⟩
/-- in the loop over the neighbours of i -/
structure MxS (es : List (Int × Int × Int)) (P : VS) (i : Nat) (done : List Nat) (n : Nat) : Prop where
  has : Bd es P n
  out : ∀ c', Bd es (rmv P i) c' → c' ≤ n
  met : ∀ j ∈ done, ∀ c', Bd es (rmv (rmv P i) j) c' → c' + 1 ≤ n
theorem MxS.start {es : List (Int × Int × Int)} {P : VS} {i n : Nat} (h : IsMM es (rmv P i) n) : MxS es P i [] n :=
  ⟨h.has.mono fun _ hk => (rmv_at.1 hk).1, h.most, fun _ hj => (List.not_mem_nil hj).elim⟩
theorem MxS.next {es : List (Int × Int × Int)} {P : VS} {i n j c : Nat} {done : List Nat} (h : MxS es P i done n) (hi : P i = true) (hj : P j = true) (hij : j ≠ i) (he : EdgeOf es i j) (hc : IsMM es (rmv (rmv P i) j) c) : MxS es P i (done ++ [j]) (max n (1 + c)) := by
  have hmx : max n (1 + c) = n ∨ max n (1 + c) = 1 + c := by omega
  refine ⟨?_, fun c' h' => by have := h.out c' h'; omega, fun j' hj' c' h' => ?_⟩
  · rcases hmx with e | e
    · rw [e]; exact h.has
    · rw [e, Nat.add_comm]; exact Bd.front he hi hj hij hc.has
  · rcases List.mem_append.1 hj' with hj' | hj'
    · have := h.met j' hj' c' h'; omega
    · simp at hj'; subst hj'
      have := hc.most c' h'; omega
theorem MxS.done {es : List (Int × Int × Int)} {P : VS} {i n : Nat} {all : List Nat} (h : MxS es P i all n) (hall : ∀ j, P j = true → j ≠ i → EdgeOf es i j → j ∈ all) : IsMM es P n :=
  ⟨h.has, fun c' hc => by
    rcases hc.split i with hc | ⟨j, c'', rfl, _, h2, h3, h4, h5⟩
    · exact h.out c' hc
    · exact h.met j (hall j h2 h3 h4) c'' h5⟩
/-- the first edge: it is had, if as many can be had with it -/
theorem IsMM.cons {e : Int × Int × Int} {es : List (Int × Int × Int)} {P : VS} {c : Nat} (h : IsMM (e :: es) P c) :
    (∃ c', c = c' + 1 ∧ P (eA e) = true ∧ P (eB e) = true ∧ eA e ≠ eB e ∧ IsMM es (rmv (rmv P (eA e)) (eB e)) c') ∨ IsMM es P c := by
  cases h.has with
  | skip h' => exact .inr ⟨h', fun c' hc => h.most c' (.skip hc)⟩
  | @take _ _ _ c0 h1 h2 h3 h4 => exact .inl ⟨c0, rfl, h1, h2, h3, h4, fun c' hc => by have := h.most _ (.take h1 h2 h3 hc); omega⟩
end Go.Proofs.YteadceghjfaekaaDoor
