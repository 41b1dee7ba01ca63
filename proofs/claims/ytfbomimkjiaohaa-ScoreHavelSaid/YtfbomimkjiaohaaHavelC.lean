/- A graph has its own degrees; what is made of pairs is a graph; degrees together are twice the edges. Plain. -/
import Derived.Test.YtfbomimkjiaohaaHavelB
import Derived.Test.YtfbomimkjiaohaaDegreeR
namespace Go.Proofs.Ytfbomimkjiaohaa

theorem countP_or {p q : Nat → Bool} : ∀ {l : List Nat}, (∀ x ∈ l, ¬ (p x = true ∧ q x = true)) → l.countP (fun x => p x || q x) = l.countP p + l.countP q
  | [], _ => rfl
  | a :: l, h => by
    rw [List.countP_cons, List.countP_cons, List.countP_cons, countP_or fun x hx => h x (List.mem_cons_of_mem _ hx)]
    have := h a (List.mem_cons_self ..)
    cases hp : p a <;> cases hq : q a <;> simp [hp, hq] at this ⊢ <;> omega
theorem countP_is {n a : Nat} (ha : a < n) : (List.range n).countP (fun y => y == a) = 1 := by
  have h := cnt_upd (p := fun y => y == a) (q := fun _ => false) (z := a) (fun y hy => by simp [hy]) List.nodup_range (List.mem_range.2 ha)
  simp at h
  simpa using h
def prE (e : E) (x y : Nat) : Bool := (e.1 == (x : Int) && e.2.1 == (y : Int)) || (e.1 == (y : Int) && e.2.1 == (x : Int))
def adR (es : List E) (x y : Nat) : Bool := es.any fun e => prE e x y
theorem prE_deg {n : Nat} {e : E} (h : okE n e) (x : Nat) : (List.range n).countP (prE e x) = if incE x e then 1 else 0 := by
  obtain ⟨a, b, h1, h2, ha, hb, hne⟩ := h
  by_cases e1 : x = a
  · subst e1
    rw [show prE e x = fun y => y == b from by
      funext y; unfold prE; rw [h1, h2, Bool.eq_iff_iff]; simp; omega, countP_is hb]
    unfold incE; rw [h1]; simp
  · by_cases e2 : x = b
    · subst e2
      rw [show prE e x = fun y => y == a from by
        funext y; unfold prE; rw [h1, h2, Bool.eq_iff_iff]; simp; omega, countP_is ha]
      unfold incE; rw [h2]; simp
    · rw [show prE e x = fun _ => false from by
        funext y; unfold prE; rw [h1, h2, Bool.eq_iff_iff]; simp; omega]
      unfold incE; rw [h1, h2]; simp; omega
theorem degE_cons (e : E) (es : List E) (x : Nat) : degE (e :: es) x = (if incE x e then 1 else 0) + degE es x := by
  unfold degE
  rw [List.filter_cons]
  split <;> simp; omega
theorem adR_deg {n : Nat} (x : Nat) : ∀ {es : List E}, (∀ e ∈ es, okE n e) → es.Pairwise (fun f e => sameE e f = false) → (List.range n).countP (adR es x) = degE es x
  | [], _, _ => by simp [adR, degE]
  | e :: es, h1, h2 => by
    rw [List.pairwise_cons] at h2
    have ih := adR_deg x (es := es) (fun f hf => h1 f (List.mem_cons_of_mem _ hf)) h2.2
    rw [show adR (e :: es) x = fun y => prE e x y || adR es x y from rfl, countP_or, ih, prE_deg (h1 e (List.mem_cons_self ..)), degE_cons]
    rintro y _ ⟨h3, h4⟩
    obtain ⟨f, hf, h5⟩ := List.any_eq_true.1 h4
    have := h2.1 f hf
    unfold prE at h3 h5
    unfold sameE at this
    simp at h3 h5 this
    omega
theorem gph_of {n : Nat} {es : List E} (h : OkL n es) : Gph (List.range n) (degE es) := by
  refine ⟨adR es, fun x => List.any_eq_false.2 fun e he => ?_, fun x y hxy => ?_, fun x y hxy => ?_, fun x _ => adR_deg x h.ok h.two⟩
  · obtain ⟨a, b, h1, h2, _, _, hne⟩ := h.ok e he
    unfold prE; rw [h1, h2]; simp; omega
  · obtain ⟨e, he, h1⟩ := List.any_eq_true.1 hxy
    refine List.any_eq_true.2 ⟨e, he, ?_⟩
    unfold prE at h1 ⊢
    rw [Bool.or_comm]; exact h1
  · obtain ⟨e, he, h1⟩ := List.any_eq_true.1 hxy
    obtain ⟨a, b, h2, h3, h4, h5, _⟩ := h.ok e he
    unfold prE at h1
    rw [h2, h3] at h1
    simp at h1
    rw [List.mem_range]; omega
/-- all degrees ahead of k, together -/
def sumD (f : Nat → Nat) : Nat → Nat
  | 0 => 0
  | k + 1 => sumD f k + f k
theorem sumD_congr {f g : Nat → Nat} : ∀ k, (∀ x, x < k → f x = g x) → sumD f k = sumD g k
  | 0, _ => rfl
  | k + 1, h => by rw [sumD, sumD, sumD_congr k fun x hx => h x (by omega), h k (by omega)]
theorem sumD_add (f g : Nat → Nat) : ∀ k, sumD (fun x => f x + g x) k = sumD f k + sumD g k
  | 0 => rfl
  | k + 1 => by simp only [sumD, sumD_add f g k]; omega
theorem sumD_one (p : Nat → Bool) : ∀ k, sumD (fun x => if p x then 1 else 0) k = (List.range k).countP p
  | 0 => rfl
  | k + 1 => by rw [sumD, sumD_one p k, List.range_succ, List.countP_append, List.countP_singleton]
theorem sumD_two {n : Nat} {e : E} (h : okE n e) : sumD (fun x => if incE x e then 1 else 0) n = 2 := by
  obtain ⟨a, b, h1, h2, ha, hb, hne⟩ := h
  rw [sumD_one, show (fun x => incE x e) = fun x => (x == a) || (x == b) from by
    funext x; unfold incE; rw [h1, h2, Bool.eq_iff_iff]; simp; omega, countP_or (fun x _ => by simp; omega), countP_is ha, countP_is hb]
theorem hands2 {n : Nat} : ∀ {es : List E}, (∀ e ∈ es, okE n e) → sumD (degE es) n = 2 * es.length
  | [], _ => by
    rw [show degE [] = fun _ => 0 from rfl]
    have : ∀ k, sumD (fun _ => 0) k = 0 := fun k => by induction k with
      | zero => rfl
      | succ k ih => rw [sumD, ih]
    exact this n
  | e :: es, h => by
    rw [show degE (e :: es) = fun x => (if incE x e then 1 else 0) + degE es x from funext fun x => degE_cons e es x, sumD_add, sumD_two (h e (List.mem_cons_self ..)), hands2 fun f hf => h f (List.mem_cons_of_mem _ hf), List.length_cons]
    omega
/-- the pairs as edges without a weight -/
def toQ (ps : List (Nat × Nat)) : List E := ps.map fun e => ((e.1 : Int), (e.2 : Int), (0 : Int))
theorem toQ_ok {n : Nat} {ps : List (Nat × Nat)} (h1 : ∀ e ∈ ps, e.1 < n ∧ e.2 < n ∧ e.1 ≠ e.2) (h2 : ps.Pairwise fun e f => ¬ sameQ e f) : OkL n (toQ ps) := by
  constructor
  · intro e he
    obtain ⟨f, hf, rfl⟩ := List.mem_map.1 he
    obtain ⟨h3, h4, h5⟩ := h1 f hf
    refine ⟨by simp [outE]; omega, by simp; omega, by simp [heavyE]⟩
  · unfold toQ
    rw [List.pairwise_map]
    refine h2.imp fun {e f} hs => ?_
    unfold sameQ at hs
    unfold sameE
    simp
    omega
theorem degE_toQ (x : Nat) : ∀ ps : List (Nat × Nat), degE (toQ ps) x = dgP ps x
  | [] => rfl
  | e :: ps => by
    rw [show toQ (e :: ps) = ((e.1 : Int), (e.2 : Int), (0 : Int)) :: toQ ps from rfl, degE_cons, degE_toQ x ps]
    unfold dgP
    rw [List.countP_cons, Nat.add_comm]
    congr 1
    have : incE x ((e.1 : Int), (e.2 : Int), (0 : Int)) = (e.1 == x || e.2 == x) := by
      unfold incE
      rw [Bool.eq_iff_iff]; simp; omega
    rw [this]
/-- of ten nodes no more than 45 pairs -/
theorem pairs_le {n : Nat} {ps : List (Nat × Nat)} (hn : n ≤ 10) (h1 : ∀ e ∈ ps, e.1 < n ∧ e.2 < n ∧ e.1 ≠ e.2) (h2 : ps.Pairwise fun e f => ¬ sameQ e f) : ps.length ≤ 45 := by
  have hok := toQ_ok h1 h2
  have hs := hands2 hok.ok
  have hg := gph_of hok
  have hb : ∀ k, k ≤ n → sumD (degE (toQ ps)) k ≤ (n - 1) * k := fun k hk => by
    induction k with
    | zero => simp [sumD]
    | succ k ih =>
      have := ih (by omega)
      have h3 := hg.deg_lt (x := k) (by omega)
      rw [sumD, Nat.mul_succ]; omega
  have := hb n (Nat.le_refl _)
  have hl : (toQ ps).length = ps.length := by simp [toQ]
  have : (n - 1) * n ≤ 9 * 10 := Nat.mul_le_mul (by omega) hn
  omega
end Go.Proofs.Ytfbomimkjiaohaa
