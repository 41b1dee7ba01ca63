/- tour: how many edges are left; what Tour holds on its way. -/
import Derived.Test.YtbghkpkpmbbghaaDoorTourN
namespace Go.Proofs.YtbghkpkpmbbghaaDoor
open Go.RowKit Go.Shelf

theorem sum_split {f g : Nat → Nat} {p : Nat → Bool} : ∀ {W : List Nat}, (∀ x ∈ W, f x + (if p x then 1 else 0) = g x) → (W.map f).sum + W.countP p = (W.map g).sum
  | [], _ => rfl
  | z :: W, h => by
    have ih := sum_split (f := f) (g := g) (p := p) (W := W) fun x hx => h x (List.mem_cons_of_mem _ hx)
    have := h z (List.mem_cons_self ..)
    rw [List.map_cons, List.sum_cons, List.map_cons, List.sum_cons, List.countP_cons]
    split at this <;> rename_i e <;> simp [e] <;> omega
theorem dsum_rem {n : Nat} {r : Nat → Nat → Bool} {a j : Nat} (h : Sg n r) (haj : r a j = true) : dsum (remE r a j) (List.range n) + 2 = dsum r (List.range n) := by
  have hne : a ≠ j := fun e => by rw [e, h.ir] at haj; cases haj
  rw [dsum_sum, dsum_sum]
  have := sum_split (f := degW (remE r a j) (List.range n)) (g := degW r (List.range n)) (p := fun x => decide (x = a ∨ x = j)) (W := List.range n) (fun x _ => by
    have := deg_rem h haj x
    simp only [decide_eq_true_eq]
    exact this)
  rw [← this]
  congr 1
  have e1 := countP_upd1 (p := fun x => decide (x = a ∨ x = j)) (q := fun x => decide (x = a)) (z := j) (fun x hx => by simp [hx]) List.nodup_range (List.mem_range.2 (h.lt _ _ (h.sy _ _ haj)))
  have e2 := countP_upd1 (p := fun x => decide (x = a)) (q := fun _ => false) (z := a) (fun x hx => by simp [hx]) List.nodup_range (List.mem_range.2 (h.lt _ _ haj))
  have v1 : (decide (j = a ∨ j = j)).toNat = 1 := by simp
  have v2 : (decide (j = a)).toNat = 0 := by simp [Ne.symm hne]
  have v3 : (decide (a = a)).toNat = 1 := by simp
  have v4 : (List.range n).countP (fun _ => false) = 0 := by simp
  rw [v1, v2] at e1
  rw [v3, v4] at e2
  simp only [Bool.toNat_false] at e2
  omega
theorem sum_le {f : Nat → Nat} {b : Nat} : ∀ {W : List Nat}, (∀ x ∈ W, f x ≤ b) → (W.map f).sum ≤ b * W.length
  | [], _ => by simp
  | z :: W, h => by
    have ih := sum_le (f := f) (b := b) (W := W) fun x hx => h x (List.mem_cons_of_mem _ hx)
    have := h z (List.mem_cons_self ..)
    rw [List.map_cons, List.sum_cons, List.length_cons, Nat.mul_succ]
    omega
theorem dsum_le (n : Nat) (r : Nat → Nat → Bool) (hn : n ≤ 10) : dsum r (List.range n) ≤ 100 := by
  rw [dsum_sum]
  have := sum_le (f := degW r (List.range n)) (b := 10) (W := List.range n) (fun x _ => by
    have := List.countP_le_length (p := r x) (l := List.range n)
    rw [List.length_range] at this
    unfold degW; omega)
  rw [List.length_range] at this
  omega
/-- what holds at each round's head -/
structure TrI (n : Nat) (ns0 : List Nat) (s : Nat) (ns : List Nat) (a : Nat) (L : List Nat) : Prop where
  g : Gr n ns
  len : ns.length = n
  tw : TwI n (nb ns) s a
  wk : Wk (nb ns0) L (nb ns)
  last : L.getLast?.getD 0 = a
  hd : L.head?.getD 0 = s
  ne : L ≠ []
  ins : ∀ x ∈ L, x < n
  cnt : dsum (nb ns) (List.range n) + 2 * L.length = dsum (nb ns0) (List.range n) + 2
section
variable {n s a j : Nat} {ns0 ns L : List Nat}
theorem TrI.beg (g : Gr n ns) (hl : ns.length = n) (ha : a < n) (he : ∀ x, x < n → popc 10 (ns.getD x 0) % 2 = 0) (ho : oneR (nb ns) a) : TrI n ns a ns a [a] := by
  refine ⟨g, hl, TwI.beg (sg_of g) ho fun x => ?_, .one _ _, rfl, rfl, by simp, fun x hx => by simp at hx; omega, by simp⟩
  rw [← deg_popc g]
  by_cases hx : x < n
  · exact he x hx
  · rw [show ns.getD x 0 = 0 by simp [List.getD, show ns.length ≤ x by omega], popc_zero]
theorem TrI.step (h : TrI n ns0 s ns a L) (haj : nb ns a j = true) (ho : oneB (turnW ns a j) n j = true) : TrI n ns0 s (turnW ns a j) j (L ++ [j]) := by
  obtain ⟨ha, hj, _, _⟩ := h.g.ok a j haj
  have e := turn_nb h.g h.len haj
  have g2 := turn_gr h.g h.len haj
  have ho2 := (one_iff g2 hj).1 ho
  rw [e] at ho2
  refine ⟨g2, by rw [turnW_len]; exact h.len, by rw [e]; exact h.tw.step haj ho2, ?_, by simp, ?_, by simp, fun x hx => ?_, ?_⟩
  · rw [e, ← h.last]
    exact h.wk.snoc (by rw [h.last]; exact haj)
  · have := h.hd
    cases hL : L with
    | nil => exact absurd hL h.ne
    | cons b l => rw [hL] at this; exact this
  · rcases List.mem_append.1 hx with hx | hx
    · exact h.ins x hx
    · simp at hx; omega
  · have h1 := dsum_rem (sg_of h.g) haj
    have h2 := h.cnt
    rw [e, List.length_append, List.length_singleton]
    omega
/-- some edge goes on -/
theorem TrI.goes (h : TrI n ns0 s ns a L) (hh : hasN ns = true) : ∃ j, nb ns a j = true ∧ oneB (turnW ns a j) n j = true := by
  obtain ⟨x, y, hxy⟩ : ∃ x y, nb ns x y = true := Classical.byContradiction fun hn => by
    have := has_iff.2 (fun x y => by
      cases hc : nb ns x y
      · rfl
      · exact absurd ⟨x, y, hc⟩ hn)
    rw [this] at hh; cases hh
  obtain ⟨j, hj, ho⟩ := fleury h.tw hxy
  refine ⟨j, hj, (one_iff (turn_gr h.g h.len hj) (h.g.ok a j hj).2.1).2 ?_⟩
  rw [turn_nb h.g h.len hj]; exact ho
theorem TrI.len_le (h : TrI n ns0 s ns a L) (hn : n ≤ 10) : L.length ≤ 51 := by
  have := h.cnt
  have := dsum_le n (nb ns0) hn
  omega
end
/-- what is told: a way over all edges, back to where it began -/
def TourP (n : Nat) (ns0 : List Nat) (L : List Nat) : Prop := L ≠ [] ∧ L.head?.getD 0 = L.getLast?.getD 0 ∧ (∀ x ∈ L, x < n) ∧ ∃ r, Wk (nb ns0) L r ∧ ∀ x y, r x y = false
theorem TrI.done {n s a : Nat} {ns0 ns L : List Nat} (h : TrI n ns0 s ns a L) (hh : hasN ns = false) : TourP n ns0 L :=
  ⟨h.ne, by rw [h.hd, h.last]; exact h.tw.end_ (has_iff.1 hh), h.ins, nb ns, h.wk, has_iff.1 hh⟩
end Go.Proofs.YtbghkpkpmbbghaaDoor
