/- span: the tree of a code, step by step. Plain. -/
import Derived.Test.YtdmbbddkbfknlaaDoorPruferD
namespace Go.Proofs.YtdmbbddkbfknlaaDoor
open Go.RowKit

def updZ (f : Nat → Int) (i : Nat) (v : Int) : Nat → Int := fun x => if x = i then v else f x
structure DcI (n : Nat) (code : List Nat) (k : Nat) (cm : Nat → Int) (ps : List (Nat × Nat)) : Prop where
  ex : ∃ W, Srt W ∧ (∀ x ∈ W, x < n) ∧ W.length + k = n ∧ (∀ x, x < n → cm x = if x ∈ W then ((code.drop k).count x : Int) else -1) ∧ (∀ c ∈ code.drop k, c ∈ W) ∧ ∀ ps', DR W (code.drop k) ps' → DR (List.range n) code (ps ++ ps')
  pl : ps.length = k
theorem DcI.beg {n : Nat} {code : List Nat} (hc : ∀ c ∈ code, c < n) : DcI n code 0 (fun x => (code.count x : Int)) [] :=
  ⟨⟨List.range n, List.pairwise_lt_range, fun x hx => List.mem_range.1 hx, by simp, fun x hx => by rw [if_pos (List.mem_range.2 hx)]; rfl, fun c h => List.mem_range.2 (hc c h), fun ps' h => h⟩, rfl⟩
theorem DcI.step {n : Nat} {code : List Nat} {k : Nat} {cm : Nat → Int} {ps : List (Nat × Nat)} (h : DcI n code k cm ps) (hn : n = code.length + 2) (hk : k < code.length) :
    ∃ i, i < n ∧ cm i = 0 ∧ (∀ m, m < i → cm m ≠ 0) ∧ code.getD k 0 < n ∧ i ≠ code.getD k 0 ∧ DcI n code (k + 1) (updZ (updZ cm i (-1)) (code.getD k 0) (cm (code.getD k 0) - 1)) (ps ++ [(i, code.getD k 0)]) := by
  obtain ⟨⟨W, hS, hW, hl, hcm, hin, hd⟩, hpl⟩ := h
  have hdrop : code.drop k = code.getD k 0 :: code.drop (k + 1) := by
    rw [List.drop_eq_getElem_cons hk]; simp [List.getD, hk]
  obtain ⟨j, hj⟩ : ∃ j, code.getD k 0 = j := ⟨_, rfl⟩
  rw [hj] at hdrop ⊢
  have hex : ∃ i ∈ W, i ∉ code.drop k := by
    refine Classical.byContradiction fun hno => ?_
    have hsub : W ⊆ code.drop k := fun x hx => Classical.byContradiction fun hnx => hno ⟨x, hx, hnx⟩
    have := hS.nd.length_le_of_subset hsub
    rw [List.length_drop] at this
    omega
  obtain ⟨i, hi, hni, hmin⟩ := least_of hex
  have hjW : j ∈ W := hin j (by rw [hdrop]; simp)
  have hij : i ≠ j := fun e => hni (by rw [hdrop, e]; simp)
  have hin' := hW i hi
  refine ⟨i, hin', ?_, fun m hm hz => ?_, hW j hjW, hij, ⟨W.erase i, hS.erase i, fun x hx => hW x (List.mem_of_mem_erase hx), ?_, fun x hx => ?_, fun c hc => ?_, fun ps' hp => ?_⟩, by simp [hpl]⟩
  · rw [hcm i hin', if_pos hi, List.count_eq_zero_of_not_mem hni]; rfl
  · rw [hcm m (by omega)] at hz
    by_cases hmW : m ∈ W
    · rw [if_pos hmW] at hz
      have hz' : (code.drop k).count m = 0 := by omega
      exact hmin m hmW hm (List.count_eq_zero.1 hz')
    · rw [if_neg hmW] at hz; omega
  · rw [List.length_erase_of_mem hi]; have := List.length_pos_of_mem hi; omega
  · unfold updZ
    by_cases e : x = j
    · subst e
      rw [if_pos rfl, if_pos ((List.mem_erase_of_ne fun e => hij e.symm).2 hjW), hcm x hx, if_pos hjW, hdrop, List.count_cons_self]
      omega
    · rw [if_neg e]
      by_cases e2 : x = i
      · subst e2
        rw [if_pos rfl, if_neg hS.nd.not_mem_erase]
      · rw [if_neg e2, hcm x hx, hdrop, List.count_cons_of_ne (fun e' => e e'.symm)]
        by_cases hxW : x ∈ W
        · rw [if_pos hxW, if_pos ((List.mem_erase_of_ne e2).2 hxW)]
        · rw [if_neg hxW, if_neg fun h => hxW (List.mem_of_mem_erase h)]
  · have hcW := hin c (by rw [hdrop]; exact List.mem_cons_of_mem _ hc)
    exact (List.mem_erase_of_ne fun e => hni (by rw [hdrop, ← e]; exact List.mem_cons_of_mem _ hc)).2 hcW
  · rw [List.append_assoc]
    refine hd _ ?_
    rw [hdrop]
    rw [hdrop] at hni
    exact DR.step hi hjW hni (fun m hm hmi => Classical.byContradiction fun hno => hmin m hm hmi (by rw [hdrop]; exact hno)) hp
theorem DcI.end_ {n : Nat} {code : List Nat} {cm : Nat → Int} {ps : List (Nat × Nat)} (h : DcI n code code.length cm ps) (hn : n = code.length + 2) :
    ∃ a b, a < b ∧ b < n ∧ cm a = 0 ∧ (∀ m, m < a → cm m ≠ 0) ∧ cm b = 0 ∧ (∀ m, a < m → m < b → cm m ≠ 0) ∧ DR (List.range n) code (ps ++ [(a, b)]) := by
  obtain ⟨⟨W, hS, hW, hl, hcm, hin, hd⟩, hpl⟩ := h
  rw [List.drop_length] at hcm hd
  match W, hS, hW, hl, hcm, hd with
  | [a, b], hS, hW, _, hcm, hd =>
    have hab : a < b := (List.pairwise_cons.1 hS).1 b (by simp)
    have hbn := hW b (by simp)
    have hz : ∀ m, m < n → (cm m = 0 ↔ m = a ∨ m = b) := fun m hm => by
      rw [hcm m hm]
      by_cases h : m ∈ [a, b]
      · rw [if_pos h]
        have : m = a ∨ m = b := by simpa using h
        simp [this]
      · rw [if_neg h]
        have : ¬ (m = a ∨ m = b) := by simpa using h
        simp [this]
    exact ⟨a, b, hab, hbn, (hz a (by omega)).2 (.inl rfl), fun m hm h => by have := (hz m (by omega)).1 h; omega, (hz b hbn).2 (.inr rfl), fun m h1 h2 h => by have := (hz m (by omega)).1 h; omega, hd _ (DR.base hab)⟩
  | [], _, _, hl, _, _ => simp at hl; omega
  | [_], _, _, hl, _, _ => simp at hl; omega
  | _ :: _ :: _ :: _, _, _, hl, _, _ => simp at hl; omega
end Go.Proofs.YtdmbbddkbfknlaaDoor
