/- SpanCut: the plain law. -/
import Derived.Test.YtdmbbddkbfknlaaSpanLeast
namespace Go.Proofs.Ytdmbbddkbfknlaa
open Go.RowKit

/-- does an edge lead over the set's border? -/
def crs (x : Nat) (es : List E) (i : Nat) : Bool := x.testBit (eAt es i).1.toNat != x.testBit (eAt es i).2.1.toNat
/-- the lightest of the first k that lead over it -/
def lcK (x : Nat) (es : List E) : Nat → Int
  | 0 => -1
  | k + 1 => if crs x es k && (decide (lcK x es k < 0) || decide (wE es k < wE es (lcK x es k).toNat)) then (k : Int) else lcK x es k
theorem lcK_spec (x : Nat) (es : List E) : ∀ k, (lcK x es k < 0 ∧ lcK x es k = -1 ∧ ∀ j, j < k → crs x es j = false) ∨ ∃ i : Nat, lcK x es k = (i : Int) ∧ i < k ∧ crs x es i = true ∧ ∀ j, j < k → crs x es j = true → wE es i ≤ wE es j
  | 0 => .inl ⟨by unfold lcK; omega, rfl, fun j hj => by omega⟩
  | k + 1 => by
    rcases lcK_spec x es k with ⟨h1, h0, h2⟩ | ⟨i, h1, h2, h3, h4⟩
    · cases hc : crs x es k
      · refine .inl ⟨?_, ?_, fun j hj => ?_⟩
        · unfold lcK; rw [hc]; simpa using h1
        · unfold lcK; rw [hc]; simpa using h0
        · by_cases e : j = k
          · rw [e]; exact hc
          · exact h2 j (by omega)
      · refine .inr ⟨k, ?_, by omega, hc, fun j hj hjc => ?_⟩
        · unfold lcK; rw [hc, if_pos (by simp [h1])]
        · by_cases e : j = k
          · rw [e]; exact Int.le_refl _
          · rw [h2 j (by omega)] at hjc; exact absurd hjc (by simp)
    · by_cases hcond : crs x es k = true ∧ wE es k < wE es i
      · refine .inr ⟨k, ?_, by omega, hcond.1, fun j hj hjc => ?_⟩
        · unfold lcK; rw [hcond.1, h1, if_pos (by simp [hcond.2])]
        · by_cases e : j = k
          · rw [e]; exact Int.le_refl _
          · have := h4 j (by omega) hjc; omega
      · refine .inr ⟨i, ?_, by omega, h3, fun j hj hjc => ?_⟩
        · unfold lcK
          rw [h1, if_neg ?_]
          intro h
          simp only [Bool.and_eq_true, Bool.or_eq_true, decide_eq_true_eq, Int.toNat_natCast] at h
          rcases h with ⟨h5, h6 | h6⟩
          · omega
          · exact hcond ⟨h5, h6⟩
        · by_cases e : j = k
          · subst e
            exact Int.not_lt.1 fun h => hcond ⟨hjc, h⟩
          · exact h4 j (by omega) hjc
theorem cut_law {x : Nat} {es : List E} {G : Nat → Nat} {l : List Nat} {i : Nat} (hG : Fu es.length G) (hS : Sr (wE es) 0 es.length G) (hl : l.Perm (kr es G es.length)) (hi : i < es.length) (hc : crs x es i = true) (hm : ∀ j, j < es.length → crs x es j = true → wE es i ≤ wE es j) :
    ∃ y ∈ l, crs x es y = true ∧ wE es y = wE es i := by
  obtain ⟨k, hk, hke⟩ := fu_onto hG hi
  -- the first in the order that leads over it
  have hex : ∀ b, ∀ k, k < b → k < es.length → crs x es (G k) = true → ∃ k0, k0 ≤ k ∧ crs x es (G k0) = true ∧ ∀ j, j < k0 → crs x es (G j) = false := by
    intro b
    induction b with
    | zero => intro k hk; omega
    | succ b ih =>
      intro k hkb hk hck
      by_cases h : ∃ j, j < k ∧ crs x es (G j) = true
      · obtain ⟨j, hj, hcj⟩ := h
        obtain ⟨k0, h1, h2, h3⟩ := ih j (by omega) (by omega) hcj
        exact ⟨k0, by omega, h2, h3⟩
      · exact ⟨k, Nat.le_refl _, hck, fun j hj => by
          cases hcj : crs x es (G j)
          · rfl
          · exact absurd ⟨j, hj, hcj⟩ h⟩
  obtain ⟨k0, h1, h2, h3⟩ := hex _ k (Nat.lt_succ_self _) hk (by rw [hke]; exact hc)
  refine ⟨G k0, hl.mem_iff.2 (jarnik (S := fun n => x.testBit n) (by omega) (fun j hj => ?_) ?_), h2, ?_⟩
  · have := h3 j hj
    unfold crs at this
    simpa using this
  · unfold crs at h2
    simpa using h2
  · have q1 := hm (G k0) (hG.1 k0 (by omega)) h2
    by_cases e : k0 = k
    · rw [e, hke]
    · have q2 := hS k0 k (by omega) (by omega) hk
      rw [hke] at q2
      omega
end Go.Proofs.Ytdmbbddkbfknlaa
