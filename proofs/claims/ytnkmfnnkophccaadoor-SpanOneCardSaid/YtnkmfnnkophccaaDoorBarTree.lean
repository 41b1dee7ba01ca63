/- A tree's determinant is one. Plain. -/
import Derived.Test.YtnkmfnnkophccaaDoorBarRank
namespace Go.Proofs.YtnkmfnnkophccaaDoor

def upd (r : Nat → Nat → Int) (a : Nat) (u : Nat → Int) (t : Nat) : Nat → Int := if t = a then u else r t
theorem ws_congr {n : Nat} {r r' : Nat → Nat → Int} : ∀ {s : Nat}, (∀ t, t < s → ∀ c, c < n → r t c = r' t c) → ws n r s = ws n r' s
  | 0, _ => rfl
  | s + 1, h => by
    show wd n (ws n r s) (r s) = wd n (ws n r' s) (r' s)
    rw [ws_congr fun t ht => h t (by omega), wd_congr _ (h s (by omega))]
theorem ws_upd {n : Nat} {r : Nat → Nat → Int} {a : Nat} (x y : Int) (u v : Nat → Int) : ∀ {s : Nat}, a < s → ws n (upd r a fun c => x * u c + y * v c) s = lc n x (ws n (upd r a u) s) y (ws n (upd r a v) s)
  | 0, h => absurd h (by omega)
  | s + 1, h => by
    show wd n (ws n (upd r a fun c => x * u c + y * v c) s) (upd r a (fun c => x * u c + y * v c) s) = lc n x (wd n (ws n (upd r a u) s) (upd r a u s)) y (wd n (ws n (upd r a v) s) (upd r a v s))
    by_cases e : s = a
    · subst e
      have h1 : ∀ u, ws n (upd r s u) s = ws n r s := fun u => ws_congr fun t ht c _ => by unfold upd; rw [if_neg (by omega)]
      have h2 : ∀ u, upd r s u s = u := fun u => by unfold upd; rw [if_pos rfl]
      rw [h1, h1, h1, h2, h2, h2, wd_lin]
    · have h2 : ∀ u, upd r a u s = r s := fun u => by unfold upd; rw [if_neg e]
      rw [h2, h2, h2, ws_upd x y u v (by omega), wd_lc]
theorem ws_dup {n : Nat} {r : Nat → Nat → Int} {a b : Nat} (hab : a < b) (he : r a = r b) : ∀ {s : Nat}, b < s → ∀ S, cf n S (ws n r s) = 0
  | 0, h, _ => absurd h (by omega)
  | s + 1, h, S => by
    show cf n S (wd n (ws n r s) (r s)) = 0
    by_cases e : s = b
    · subst e
      rw [← he]; exact ws_kills n r S s a hab
    · have hz : ws n r s = lc n 0 (un n) 0 (un n) := lm_ext fun S => by rw [ws_dup hab he (by omega), cf_lc]; omega
      rw [hz, wd_lc, cf_lc]; omega
section
variable {k : Nat} {r : Nat → Nat → Int}
theorem Dt_same {a b : Nat} (ha : a < k) (hb : b < k) (hab : a ≠ b) : Dt k (upd r a (r b)) k = 0 := by
  have e : upd r a (r b) a = upd r a (r b) b := by unfold upd; rw [if_pos rfl, if_neg (Ne.symm hab)]
  unfold Dt
  rcases Nat.lt_or_gt_of_ne hab with h | h
  · exact ws_dup h e hb _
  · exact ws_dup h e.symm ha _
theorem Dt_comb {a : Nat} (ha : a < k) {α : Nat → Int} (hα : α a = 0) : ∀ {s : Nat}, s ≤ k → Dt k (upd r a fun c => comb α r s c) k = 0
  | 0, _ => by
    unfold Dt
    have h1 := ws_upd (n := k) (r := r) (a := a) 0 0 (fun _ => 0) (fun _ => 0) ha
    have h2 : ws k (upd r a fun c => comb α r 0 c) k = ws k (upd r a fun c => 0 * (fun _ => (0 : Int)) c + 0 * (fun _ => (0 : Int)) c) k := ws_congr fun t _ c _ => by
      unfold upd
      split <;> simp [comb]
    rw [h2, h1, cf_lc]; omega
  | s + 1, hs => by
    have ih := Dt_comb ha hα (s := s) (by omega)
    unfold Dt at ih ⊢
    show cf k (fst' k) (ws k (upd r a fun c => 1 * comb α r s c + α s * r s c) k) = 0
    rw [ws_upd 1 (α s) (fun c => comb α r s c) (r s) ha, cf_lc, ih]
    by_cases e : s = a
    · subst e; rw [hα]; omega
    · have := Dt_same (r := r) ha (show s < k by omega) (Ne.symm e)
      unfold Dt at this
      rw [this]; omega
/-- a row made more by others -/
theorem Dt_op {a : Nat} (ha : a < k) {α : Nat → Int} (hα : α a = 0) {u : Nat → Int} (hu : ∀ c, c < k → u c = r a c + comb α r k c) : Dt k (upd r a u) k = Dt k r k := by
  have h1 : ws k (upd r a u) k = ws k (upd r a fun c => 1 * r a c + 1 * comb α r k c) k := ws_congr fun t _ c hc => by
    unfold upd
    split
    · show u c = 1 * r a c + 1 * comb α r k c
      rw [hu c hc]; omega
    · rfl
  have h2 : ws k (upd r a (r a)) k = ws k r k := ws_congr fun t _ c _ => by
    unfold upd
    split
    · rename_i e; rw [e]
    · rfl
  have h3 := Dt_comb (r := r) ha hα (Nat.le_refl k)
  unfold Dt at h3 ⊢
  rw [h1, ws_upd 1 1 (r a) (fun c => comb α r k c) ha, cf_lc, h2, h3]; omega
end
def eV (v c : Nat) : Int := if c = v then 1 else 0
theorem Dt_id (k : Nat) : ∀ s, s ≤ k → Dt k eV s = 1
  | 0, _ => Dt_zero k _
  | s + 1, hs => by
    rw [Dt_succ]
    unfold Vt Ph
    rw [cf_lowb (Nat.le_refl s) (fun c hc => by unfold eV; rw [if_neg (by omega)]), if_pos (by omega)]
    show eV s s * Dt k eV s = 1
    rw [Dt_id k s (by omega)]
    unfold eV; rw [if_pos rfl]; rfl
/-- a tree grown out of its last node: who hangs on whom -/
inductive Grow (k : Nat) (M : Nat → Nat → Int) (par : Nat → Nat) : List Nat → Prop
  | nil : Grow k M par []
  | cons {a : Nat} {τ : List Nat} : Grow k M par τ → a < k → a ∉ τ → (par a = k ∨ par a ∈ τ) → 0 < M a (par a) → Grow k M par (a :: τ)
theorem Grow.congr {k : Nat} {M : Nat → Nat → Int} {par par' : Nat → Nat} {τ : List Nat} (h : Grow k M par τ) (he : ∀ a ∈ τ, par a = par' a) : Grow k M par' τ := by
  induction h with
  | nil => exact .nil
  | cons h1 h2 h3 h4 h5 ih =>
    have e := he _ (List.mem_cons_self)
    exact .cons (ih fun a ha => he a (List.mem_cons_of_mem _ ha)) h2 h3 (e ▸ h4) (e ▸ h5)
theorem Grow.lt {k : Nat} {M : Nat → Nat → Int} {par : Nat → Nat} {τ : List Nat} (h : Grow k M par τ) : ∀ a ∈ τ, a < k := by
  induction h with
  | nil => simp
  | cons _ h2 _ _ _ ih => intro a ha; rcases List.mem_cons.1 ha with rfl | ha; exact h2; exact ih a ha
theorem Grow.nd {k : Nat} {M : Nat → Nat → Int} {par : Nat → Nat} {τ : List Nat} (h : Grow k M par τ) : τ.Nodup := by
  induction h with
  | nil => exact List.nodup_nil
  | cons _ _ h3 _ _ ih => exact List.nodup_cons.2 ⟨h3, ih⟩
theorem grow_ex {k : Nat} {M : Nat → Nat → Int} (h : GrW k M) : ∀ m, m ≤ k → ∃ par τ, Grow k M par τ ∧ τ.length = m
  | 0, _ => ⟨fun _ => 0, [], .nil, rfl⟩
  | m + 1, hm => by
    obtain ⟨par, τ, hG, hl⟩ := grow_ex h m (by omega)
    have hex : ∃ a, a < k ∧ a ∉ τ := by
      refine Classical.byContradiction fun hno => ?_
      have := (List.nodup_range (n := k)).length_le_of_subset (l₂ := τ) fun a ha => Classical.byContradiction fun h => hno ⟨a, List.mem_range.1 ha, h⟩
      simp at this; omega
    obtain ⟨a, ha, hX, b, hb, hor, hM⟩ := h.con (fun x => x ∉ τ) hex
    refine ⟨fun x => if x = a then b else par x, a :: τ, .cons (hG.congr fun x hx => ?_) ha hX ?_ ?_, by simp [hl]⟩
    · rw [if_neg (show ¬ x = a from fun e => hX (e ▸ hx))]
    · rw [if_pos rfl]
      rcases hor with h | h
      · exact .inl h
      · exact .inr (Classical.byContradiction fun h2 => h h2)
    · rw [if_pos rfl]; exact hM
theorem Grow.all {k : Nat} {M : Nat → Nat → Int} {par : Nat → Nat} {τ : List Nat} (h : Grow k M par τ) (hl : τ.length = k) : ∀ a, a < k → a ∈ τ := fun a ha => by
  refine Classical.byContradiction fun hno => ?_
  have h1 : (a :: τ).Nodup := List.nodup_cons.2 ⟨hno, h.nd⟩
  have := h1.length_le_of_subset (l₂ := List.range k) fun x hx => by
    rcases List.mem_cons.1 hx with rfl | hx
    · exact List.mem_range.2 ha
    · exact List.mem_range.2 (h.lt x hx)
  simp at this; omega
/-- each edge alone links what it links -/
def Bridges (k : Nat) (M : Nat → Nat → Int) : Prop := ∀ i j, i ≤ k → j ≤ k → 0 < M i j → ∃ X : Nat → Prop, X i ∧ ¬ X j ∧ ∀ a b, a ≤ k → b ≤ k → X a → ¬ X b → 0 < M a b → a = i ∧ b = j
theorem Grow.same {k : Nat} {M : Nat → Nat → Int} {par : Nat → Nat} {X : Nat → Prop} {τ : List Nat} (h : Grow k M par τ) (hX : ∀ t, t < k → 0 < M t (par t) → (X t ↔ X (par t))) : ∀ t ∈ τ, X t ↔ X k := by
  induction h with
  | nil => simp
  | cons _ h2 _ h4 h5 ih =>
    intro t ht
    rcases List.mem_cons.1 ht with rfl | ht
    · rw [hX t h2 h5]
      rcases h4 with h4 | h4
      · rw [h4]
      · exact ih _ h4
    · exact ih t ht
theorem Grow.pos {k : Nat} {M : Nat → Nat → Int} {par : Nat → Nat} {τ : List Nat} (h : Grow k M par τ) : ∀ t ∈ τ, 0 < M t (par t) ∧ par t ≤ k := by
  induction h with
  | nil => simp
  | cons h1 _ _ h4 h5 ih =>
    intro t ht
    rcases List.mem_cons.1 ht with rfl | ht
    · refine ⟨h5, ?_⟩
      rcases h4 with h4 | h4
      · omega
      · exact Nat.le_of_lt (h1.lt _ h4)
    · exact ih t ht
theorem comb_ind (α : Nat → Int) (r : Nat → Nat → Int) (c : Nat) (f : Nat → Int) (hf : ∀ t, α t * r t c = f t) : ∀ s, comb α r s c = ssum f 0 s
  | 0 => rfl
  | s + 1 => by
    simp only [comb]
    rw [comb_ind α r c f hf s, ssum_snoc, hf, Nat.zero_add]; omega
section
variable {k : Nat} {M : Nat → Nat → Int} {par : Nat → Nat} {τ : List Nat}
theorem tree_edges (h : GrW k M) (hB : Bridges k M) (hG : Grow k M par τ) (hl : τ.length = k) {i j : Nat} (hi : i ≤ k) (hj : j ≤ k) (hM : 0 < M i j) : (i < k ∧ j = par i) ∨ (j < k ∧ i = par j) := by
  refine Classical.byContradiction fun hno => ?_
  obtain ⟨X, hXi, hXj, hX⟩ := hB i j hi hj hM
  have hsame := hG.same (X := X) fun t ht hp => by
    have hpk := (hG.pos t (hG.all hl t ht)).2
    constructor
    · intro hXt
      refine Classical.byContradiction fun hn => ?_
      obtain ⟨e1, e2⟩ := hX t (par t) (by omega) hpk hXt hn hp
      exact hno (.inl ⟨by omega, by rw [← e1, e2]⟩)
    · intro hXp
      refine Classical.byContradiction fun hn => ?_
      obtain ⟨e1, e2⟩ := hX (par t) t hpk (by omega) hXp hn (by rw [h.sym]; exact hp)
      exact hno (.inr ⟨by omega, by rw [← e2, e1]⟩)
  have hall : ∀ t, t ≤ k → (X t ↔ X k) := fun t ht => by
    by_cases e : t = k
    · rw [e]
    · exact hsame t (hG.all hl t (by omega))
  exact hXj ((hall j hj).2 ((hall i hi).1 hXi))
theorem Grow.parIn (hG : Grow k M par τ) : ∀ u ∈ τ, par u = k ∨ par u ∈ τ := by
  induction hG with
  | nil => simp
  | cons _ _ _ g4 _ ih =>
    intro u hu
    rcases List.mem_cons.1 hu with rfl | hu
    · rcases g4 with g | g
      · exact .inl g
      · exact .inr (List.mem_cons_of_mem _ g)
    · rcases ih u hu with g | g
      · exact .inl g
      · exact .inr (List.mem_cons_of_mem _ g)
/-- no node hangs on one that hangs on it -/
theorem Grow.noback (hG : Grow k M par τ) : ∀ t ∈ τ, par t ≠ t ∧ ∀ u ∈ τ, par t = u → par u ≠ t := by
  induction hG with
  | nil => simp
  | @cons a τ h1 h2 h3 h4 _ ih =>
    have hpa : par a ≠ a := fun e => by
      rw [e] at h4
      rcases h4 with h4 | h4
      · omega
      · exact h3 h4
    have hback : ∀ u ∈ τ, par u ≠ a := fun u hu e => by
      rcases h1.parIn u hu with g | g
      · omega
      · exact h3 (e ▸ g)
    intro t ht
    rcases List.mem_cons.1 ht with rfl | ht'
    · refine ⟨hpa, fun u hu e => ?_⟩
      rcases List.mem_cons.1 hu with hu' | hu'
      · exact absurd (e.trans hu') hpa
      · exact hback u hu'
    · refine ⟨(ih t ht').1, fun u hu e => ?_⟩
      rcases List.mem_cons.1 hu with hu' | hu'
      · exact absurd (e.trans hu') (hback t ht')
      · exact (ih t ht').2 u hu' e
/-- a node less the one that it hangs on -/
def bV (par : Nat → Nat) (v c : Nat) : Int := eV v c - eV (par v) c
/-- TREES: the matrix is made by rows out of such -/
theorem tree_row (h : GrW k M) (hB : Bridges k M) (hG : Grow k M par τ) (hl : τ.length = k) {v c : Nat} (hv : v < k) (hc : c < k) :
    bV par v c = lapM k M v c + comb (fun t => if par t = v then 1 else 0) (bV par) k c := by
  have hM1 : ∀ a b, a ≤ k → b ≤ k → M a b = if (a < k ∧ b = par a) ∨ (b < k ∧ a = par b) then 1 else 0 := fun a b ha hb => by
    by_cases e : (a < k ∧ b = par a) ∨ (b < k ∧ a = par b)
    · rw [if_pos e]
      have hp : 0 < M a b := by
        rcases e with ⟨e1, e2⟩ | ⟨e1, e2⟩
        · rw [e2]; exact (hG.pos a (hG.all hl a e1)).1
        · rw [e2, h.sym]; exact (hG.pos b (hG.all hl b e1)).1
      have := h.hi a b
      omega
    · rw [if_neg e]
      have h1 := h.lo a b
      have h2 : ¬ 0 < M a b := fun hp => e (tree_edges h hB hG hl ha hb hp)
      omega
  have hnb := hG.noback
  have hpv := (hnb v (hG.all hl v hv)).1
  rw [comb_ind _ _ c (fun t => (if t = c then (if par c = v then 1 else 0) else 0) - (if c = v then 1 else 0) * (if par t = v then 1 else 0)) (fun t => by
    unfold bV eV
    by_cases e1 : par t = v
    · rw [if_pos e1]
      by_cases e2 : t = c
      · subst e2; rw [if_pos rfl, if_pos rfl, if_pos e1, e1]; split <;> omega
      · rw [if_neg (Ne.symm e2), if_neg e2, e1]; split <;> omega
    · rw [if_neg e1]
      by_cases e2 : t = c
      · subst e2; rw [if_pos rfl, if_neg e1]; split <;> omega
      · rw [if_neg e2]; split <;> omega)]
  have hs : ssum (fun t => (if t = c then (if par c = v then (1 : Int) else 0) else 0) - (if c = v then 1 else 0) * (if par t = v then 1 else 0)) 0 k = (if par c = v then 1 else 0) - (if c = v then 1 else 0) * ssum (fun t => if par t = v then 1 else 0) 0 k := by
    have h1 : ssum (fun b => 1 * (if b = c then (if par c = v then (1 : Int) else 0) else 0) + -(if c = v then 1 else 0) * (if par b = v then (1 : Int) else 0)) 0 k = _ := ssum_lin 1 (-(if c = v then 1 else 0)) (fun t => if t = c then (if par c = v then (1 : Int) else 0) else 0) (fun t => if par t = v then 1 else 0) k 0
    rw [ssum_ind, if_pos (show 0 ≤ c ∧ c < 0 + k by omega)] at h1
    rw [ssum_congr (g := fun b => 1 * (if b = c then (if par c = v then (1 : Int) else 0) else 0) + -(if c = v then 1 else 0) * (if par b = v then (1 : Int) else 0)) fun b _ _ => by grind, h1]
    grind
  rw [hs]
  unfold lapM
  by_cases e : c = v
  · subst e
    rw [if_pos rfl, if_pos rfl, if_neg hpv]
    have hd : ssum (M c) 0 (k + 1) = 1 + ssum (fun t => if par t = c then 1 else 0) 0 k := by
      have h2 : ssum (M c) 0 (k + 1) = ssum (fun b => 1 * (if b = par c then (1 : Int) else 0) + 1 * (if b < k ∧ par b = c then 1 else 0)) 0 (k + 1) := ssum_congr fun b _ hb => by
        rw [hM1 c b (by omega) (by omega)]
        by_cases e1 : b = par c
        · rw [if_pos (.inl ⟨hv, e1⟩), if_pos e1]
          by_cases e2 : b < k ∧ par b = c
          · exact absurd e2.2 ((hnb c (hG.all hl c hv)).2 b (hG.all hl b e2.1) e1.symm)
          · rw [if_neg e2]; omega
        · rw [if_neg e1]
          by_cases e2 : b < k ∧ par b = c
          · rw [if_pos (.inr ⟨e2.1, e2.2.symm⟩), if_pos e2]; omega
          · rw [if_neg e2, if_neg (by rintro (⟨_, h⟩ | ⟨h1, h2⟩); exact e1 h; exact e2 ⟨h1, h2.symm⟩)]; omega
      rw [h2, ssum_lin, ssum_ind, if_pos (by have := (hG.pos c (hG.all hl c hv)).2; omega), ssum_snoc, if_neg (by omega)]
      rw [ssum_congr (g := fun t => if par t = c then (1 : Int) else 0) fun b _ hb => by
        by_cases e2 : par b = c
        · rw [if_pos e2, if_pos ⟨by omega, e2⟩]
        · rw [if_neg e2, if_neg (fun h => e2 h.2)]]
      omega
    rw [hd]
    unfold bV eV
    rw [if_pos rfl, if_neg (Ne.symm hpv)]
    omega
  · rw [if_neg (Ne.symm e), if_neg e, hM1 v c (by omega) (by omega)]
    unfold bV eV
    rw [if_neg e]
    by_cases e1 : c = par v
    · have e2 : par c ≠ v := (hnb v (hG.all hl v hv)).2 c (hG.all hl c hc) e1.symm
      rw [if_pos e1, if_pos (.inl ⟨hv, e1⟩), if_neg e2]; omega
    · rw [if_neg e1]
      by_cases e2 : par c = v
      · rw [if_pos (.inr ⟨hc, e2.symm⟩), if_pos e2]; omega
      · rw [if_neg e2, if_neg (by rintro (⟨_, h⟩ | ⟨_, h⟩); exact e1 h; exact e2 h.symm)]; omega
theorem tree_one (h : GrW k M) (hB : Bridges k M) : Dt k (lapM k M) k = 1 := by
  obtain ⟨par, τ, hG, hl⟩ := grow_ex h k (Nat.le_refl k)
  have hall := hG.all hl
  -- who has been grown keeps its row, the others have been made
  have st1 : ∀ σ, Grow k M par σ → (∃ ρ, τ = ρ ++ σ) → Dt k (fun t => if t ∈ σ then lapM k M t else bV par t) k = Dt k (lapM k M) k → Dt k (bV par) k = Dt k (lapM k M) k := fun σ hσ => by
    induction hσ with
    | nil => intro _ he; simpa using he
    | @cons a σ h1 h2 h3 h4 h5 ih =>
      rintro ⟨ρ, hρ⟩ he
      refine ih ⟨ρ ++ [a], by rw [hρ]; simp⟩ ?_
      rw [← he]
      have hop := Dt_op (r := fun t => if t ∈ a :: σ then lapM k M t else bV par t) (a := a) h2 (α := fun t => if par t = a then 1 else 0) (by
        have := (hG.noback a (hall a h2)).1
        rw [if_neg this]) (u := bV par a) (fun c hc => by
          have e1 := tree_row h hB hG hl h2 hc
          have e2 : comb (fun t => if par t = a then 1 else 0) (fun t => if t ∈ a :: σ then lapM k M t else bV par t) k c = comb (fun t => if par t = a then 1 else 0) (bV par) k c := by
            have key : ∀ s, s ≤ k → comb (fun t => if par t = a then 1 else 0) (fun t => if t ∈ a :: σ then lapM k M t else bV par t) s c = comb (fun t => if par t = a then 1 else 0) (bV par) s c := fun s => by
              induction s with
              | zero => exact fun _ => rfl
              | succ s ih2 =>
                intro hs
                simp only [comb]
                rw [ih2 (by omega)]
                by_cases ep : par s = a
                · have hns : s ∉ a :: σ := fun hm => by
                    rcases List.mem_cons.1 hm with e | hm
                    · exact (hG.noback s (hall s (by omega))).1 (by rw [ep, e])
                    · -- what was grown ahead of a does not hang on a
                      have := h1.parIn s hm
                      rcases this with g | g
                      · omega
                      · exact h3 (ep ▸ g)
                  rw [if_neg hns]
                · rw [if_neg ep]; omega
            exact key k (Nat.le_refl k)
          rw [e2, if_pos List.mem_cons_self]; exact e1)
      rw [← hop]
      unfold Dt
      rw [ws_congr fun t ht c hc => ?_]
      unfold upd
      by_cases ea : t = a
      · subst ea; rw [if_neg h3, if_pos rfl]
      · rw [if_neg ea]
        show (if t ∈ σ then lapM k M t else bV par t) c = (if t ∈ a :: σ then lapM k M t else bV par t) c
        by_cases em : t ∈ σ
        · rw [if_pos em, if_pos (List.mem_cons_of_mem _ em)]
        · rw [if_neg em, if_neg (fun h => (List.mem_cons.1 h).elim ea em)]
  have h1 := st1 τ hG ⟨[], rfl⟩ (by
    unfold Dt
    rw [ws_congr (r' := lapM k M) fun t ht c _ => by rw [if_pos (hall t ht)]])
  -- the other way
  have st2 : ∀ σ, Grow k M par σ → Dt k (fun t => if t ∈ σ then eV t else bV par t) k = Dt k (bV par) k := fun σ hσ => by
    induction hσ with
    | nil => unfold Dt; rw [ws_congr (r' := bV par) fun t _ c _ => by simp]
    | @cons a σ g1 g2 g3 g4 g5 ih =>
      rw [← ih]
      have hpa := (hG.noback a (hall a g2)).1
      have hop := Dt_op (r := fun t => if t ∈ σ then eV t else bV par t) (a := a) g2 (α := fun t => if t = par a then 1 else 0) (by rw [if_neg (Ne.symm hpa)]) (u := eV a) (fun c hc => by
        rw [if_neg g3]
        rw [comb_ind _ _ c (fun t => if t = par a then (if t ∈ σ then eV t c else bV par t c) else 0) (fun t => by
          by_cases e : t = par a
          · rw [if_pos e, if_pos e, Int.one_mul]
            by_cases e2 : t ∈ σ
            · rw [if_pos e2, if_pos e2]
            · rw [if_neg e2, if_neg e2]
          · rw [if_neg e, if_neg e, Int.zero_mul])]
        rw [ssum_congr (g := fun t => if t = par a then (if par a ∈ σ then eV (par a) c else bV par (par a) c) else 0) (fun t _ _ => by
          by_cases e : t = par a
          · rw [if_pos e, if_pos e, e]
          · rw [if_neg e, if_neg e]), ssum_ind]
        unfold bV
        rcases g4 with g4 | g4
        · rw [if_neg (by omega), g4]
          have : eV k c = 0 := by unfold eV; rw [if_neg (by omega)]
          omega
        · rw [if_pos ⟨Nat.zero_le _, by have := g1.lt _ g4; omega⟩, if_pos g4]; omega)
      rw [← hop]
      unfold Dt
      rw [ws_congr fun t ht c hc => ?_]
      unfold upd
      by_cases ea : t = a
      · subst ea; rw [if_pos List.mem_cons_self, if_pos rfl]
      · rw [if_neg ea]
        show (if t ∈ a :: σ then eV t else bV par t) c = (if t ∈ σ then eV t else bV par t) c
        by_cases em : t ∈ σ
        · rw [if_pos em, if_pos (List.mem_cons_of_mem _ em)]
        · rw [if_neg em, if_neg (fun h => (List.mem_cons.1 h).elim ea em)]
  have h2 := st2 τ hG
  have h3 : Dt k (fun t => if t ∈ τ then eV t else bV par t) k = 1 := by
    rw [← Dt_id k k (Nat.le_refl k)]
    unfold Dt
    rw [ws_congr (r' := eV) fun t ht c _ => by rw [if_pos (hall t ht)]]
  rw [← h1, ← h2, h3]
end
end Go.Proofs.YtnkmfnnkophccaaDoor
