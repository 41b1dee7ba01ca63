/- A tick: who is in, what is wanted (plain). -/
import Derived.Test.YticffbcbfgboeaaCrewB
namespace Go.Proofs.Yticffbcbfgboeaa
open Go.RowKit Go.Shelf

def nowTo (ws : List (Int × Int)) (inn k : Nat) : List (Int × Int) := (List.range ws.length).map fun i => if i < k ∧ inn.testBit i = false then (0, (ws.getD i (0, 0)).2) else ws.getD i (0, 0)
theorem nowTo_length (ws : List (Int × Int)) (inn k : Nat) : (nowTo ws inn k).length = ws.length := by simp [nowTo]
theorem nowTo_get (ws : List (Int × Int)) (inn k i : Nat) (hi : i < ws.length) : (nowTo ws inn k)[i]? = some (if i < k ∧ inn.testBit i = false then (0, (ws.getD i (0, 0)).2) else ws.getD i (0, 0)) := by
  unfold nowTo
  rw [List.getElem?_map, List.getElem?_range hi]
  rfl
theorem nowTo_zero (ws : List (Int × Int)) (inn : Nat) : nowTo ws inn 0 = ws := by
  refine List.ext_getElem? fun i => ?_
  rcases Nat.lt_or_ge i ws.length with h | h
  · rw [nowTo_get _ _ _ _ h, if_neg (by omega), List.getElem?_eq_getElem h]
    simp [List.getD, List.getElem?_eq_getElem h]
  · rw [List.getElem?_eq_none (by rw [nowTo_length]; exact h), List.getElem?_eq_none h]
theorem nowTo_full (ws : List (Int × Int)) (inn : Nat) : nowTo ws inn ws.length = nowW ws inn := by
  unfold nowTo nowW
  refine List.map_congr_left fun i hi => ?_
  rw [List.mem_range] at hi
  cases h : inn.testBit i
  · rw [if_pos ⟨hi, rfl⟩]; rfl
  · rw [if_neg (by simp)]; rfl
theorem nowTo_in {ws : List (Int × Int)} {inn k : Nat} (h : inn.testBit k = true) : nowTo ws inn (k + 1) = nowTo ws inn k := by
  unfold nowTo
  refine List.map_congr_left fun i _ => ?_
  by_cases e : i = k
  · subst e; rw [h, if_neg (by simp), if_neg (by simp)]
  · by_cases e2 : i < k ∧ inn.testBit i = false
    · rw [if_pos ⟨by omega, e2.2⟩, if_pos e2]
    · rw [if_neg (fun h => e2 ⟨by omega, h.2⟩), if_neg e2]
theorem nowTo_out {ws : List (Int × Int)} {inn k : Nat} (h : inn.testBit k = false) (hk : k < ws.length) : nowTo ws inn (k + 1) = (nowTo ws inn k).set k (0, ((nowTo ws inn k).getD k (0, 0)).2) := by
  have e0 : ((nowTo ws inn k).getD k (0, 0)) = ws.getD k (0, 0) := by
    simp only [List.getD]
    rw [nowTo_get _ _ _ _ hk, if_neg (by omega)]
    simp [List.getD]
  rw [e0]
  refine List.ext_getElem? fun i => ?_
  rcases Nat.lt_or_ge i ws.length with hi | hi
  · by_cases e : i = k
    · subst e
      rw [nowTo_get _ _ _ _ hi, if_pos ⟨by omega, h⟩, List.getElem?_set_self (by rw [nowTo_length]; exact hi)]
    · rw [nowTo_get _ _ _ _ hi, List.getElem?_set_ne (Ne.symm e), nowTo_get _ _ _ _ hi]
      by_cases e2 : i < k ∧ inn.testBit i = false
      · rw [if_pos ⟨by omega, e2.2⟩, if_pos e2]
      · rw [if_neg (fun h => e2 ⟨by omega, h.2⟩), if_neg e2]
  · rw [List.getElem?_eq_none (by rw [nowTo_length]; exact hi), List.getElem?_eq_none (by rw [List.length_set, nowTo_length]; exact hi)]
theorem ps2_set1 {k₁ k₂ : IntKind} : ∀ (l : List (Int × Int)) (i : Nat) (a : Int), i < l.length → (ps2 k₁ k₂ l).set (i * 2) (.int k₁ a) = ps2 k₁ k₂ (l.set i (a, (l.getD i (0, 0)).2))
  | [], i, a, h => by simp at h
  | c :: l, 0, a, _ => by simp [ps2]
  | c :: l, i + 1, a, h => by
    have ih := ps2_set1 (k₁ := k₁) (k₂ := k₂) l i a (by simpa using h)
    have e : ps2 k₁ k₂ (c :: l) = .int k₁ c.1 :: .int k₂ c.2 :: ps2 k₁ k₂ l := rfl
    rw [e, show (i + 1) * 2 = i * 2 + 1 + 1 by omega]
    simp only [List.set_cons_succ, List.getD_cons_succ]
    rw [ih]
    rfl
theorem wantTo_succ (ss : List Nat) (wants : List Int) (k : Nat) : wantTo ss wants (k + 1) = wantTo ss wants k ++ List.replicate (wants.getD k 0).toNat (ss.getD k 0) := by
  unfold wantTo
  rw [List.range_succ, List.flatMap_append]
  simp
theorem wantTo_length (ss : List Nat) (wants : List Int) : ∀ k, (∀ j, j < k → 0 ≤ wants.getD j 0) → ((wantTo ss wants k).length : Int) = sumTo (fun j => wants.getD j 0) k
  | 0, _ => rfl
  | k + 1, h => by
    have h1 := wantTo_length ss wants k fun j hj => h j (by omega)
    have h2 := h k (by omega)
    rw [wantTo_succ, List.length_append, List.length_replicate, sumTo, ← h1]
    omega
theorem pchk_mk {ws : List (Int × Int)} {nt : Nat} (h1 : ws.length ≤ 6) (h2 : nt ≤ 12) (h3 : ∀ c ∈ ws, 0 ≤ c.1 ∧ c.1 ≤ 12) : pchk ws nt = 0 := by
  unfold pchk
  rw [if_neg (by omega), if_neg]
  intro h
  obtain ⟨c, hc, ho⟩ := List.any_eq_true.1 h
  have := h3 c hc
  unfold oddW at ho
  simp at ho
  omega
theorem nowW_ok {ws : List (Int × Int)} {inn : Nat} (h : ∀ j, j < ws.length → 0 ≤ (wat ws j).1 ∧ (wat ws j).1 ≤ 12) : ∀ c ∈ nowW ws inn, 0 ≤ c.1 ∧ c.1 ≤ 12 := by
  intro c hc
  unfold nowW at hc
  obtain ⟨i, hi, rfl⟩ := List.mem_map.1 hc
  rw [List.mem_range] at hi
  have := h i hi
  split
  · exact this
  · exact ⟨Int.le_refl _, by show (0 : Int) ≤ 12; decide⟩
theorem nowW_length (ws : List (Int × Int)) (inn : Nat) : (nowW ws inn).length = ws.length := by simp [nowW]
theorem wds_rep (t n : Nat) : wds (List.replicate n t) = List.replicate n (.int .u32 (t : Int)) := by simp [wds]
theorem wds_app (a b : List Nat) : wds (a ++ b) = wds a ++ wds b := by simp [wds]
end Go.Proofs.Yticffbcbfgboeaa
