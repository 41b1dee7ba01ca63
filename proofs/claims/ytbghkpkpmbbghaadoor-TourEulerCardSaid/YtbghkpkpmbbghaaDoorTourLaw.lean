/- Fleury: from where all that is left can be met some edge goes on so. Plain. -/
import Derived.Test.YtbghkpkpmbbghaaDoorPruferLaw
namespace Go.Proofs.YtbghkpkpmbbghaaDoor

structure Sg (n : Nat) (r : Nat → Nat → Bool) : Prop where
  ir : ∀ x, r x x = false
  sy : ∀ x y, r x y = true → r y x = true
  lt : ∀ x y, r x y = true → x < n
/-- without an edge -/
def remE (r : Nat → Nat → Bool) (a b : Nat) (x y : Nat) : Bool := r x y && !decide ((x = a ∧ y = b) ∨ (x = b ∧ y = a))
theorem remE_iff {r : Nat → Nat → Bool} {a b x y : Nat} : remE r a b x y = true ↔ r x y = true ∧ ¬ ((x = a ∧ y = b) ∨ (x = b ∧ y = a)) := by
  unfold remE; rw [Bool.and_eq_true, Bool.not_eq_true', decide_eq_false_iff_not]
def oneR (r : Nat → Nat → Bool) (i : Nat) : Prop := ∀ x y, r x y = true → Go r i x
def degR (n : Nat) (r : Nat → Nat → Bool) (x : Nat) : Nat := (List.range n).countP (r x)
section
variable {n : Nat} {r : Nat → Nat → Bool} {a j : Nat}
theorem Sg.rem (h : Sg n r) (a b : Nat) : Sg n (remE r a b) :=
  ⟨fun x => by unfold remE; rw [h.ir]; rfl, fun x y hxy => by rw [remE_iff] at hxy ⊢; exact ⟨h.sy _ _ hxy.1, fun e => hxy.2 (by omega)⟩, fun x y hxy => h.lt x y (remE_iff.1 hxy).1⟩
theorem Go.first {b : Nat} (h : Go r a b) : b = a ∨ ∃ j, r a j = true := by
  induction h with
  | refl => exact .inl rfl
  | @step b x _ hbx ih =>
    rcases ih with rfl | h
    · exact .inr ⟨x, hbx⟩
    · exact .inr h
theorem Go.back (h : Sg n r) {b : Nat} (hg : Go r a b) : Go r b a := by
  induction hg with
  | refl => exact .refl
  | @step b x _ hbx ih => exact (Go.step .refl (h.sy b x hbx)).trans ih
/-- an edge's ends, without it: if the one comes back to the other, then to all -/
theorem rem_all (hj : Go (remE r a j) j a) {z : Nat} (hz : Go r a z) : Go (remE r a j) j z := by
  induction hz with
  | refl => exact hj
  | @step u v _ huv ih =>
    by_cases e : (u = a ∧ v = j) ∨ (u = j ∧ v = a)
    · rcases e with ⟨_, rfl⟩ | ⟨_, rfl⟩
      · exact .refl
      · exact hj
    · exact .step ih (remE_iff.2 ⟨huv, e⟩)
theorem rem_two {z : Nat} (hz : Go r a z) : Go (remE r a j) a z ∨ Go (remE r a j) j z := by
  induction hz with
  | refl => exact .inl .refl
  | @step u v _ huv ih =>
    by_cases e : (u = a ∧ v = j) ∨ (u = j ∧ v = a)
    · rcases e with ⟨_, rfl⟩ | ⟨_, rfl⟩
      · exact .inr .refl
      · exact .inl .refl
    · exact ih.imp (fun h => .step h (remE_iff.2 ⟨huv, e⟩)) (fun h => .step h (remE_iff.2 ⟨huv, e⟩))
theorem dsum_even (h : Sg n r) : ∀ W : List Nat, dsum r W % 2 = 0
  | [] => rfl
  | i :: W => by
    have ih := dsum_even h W
    have e : W.countP (fun x => r x i) = W.countP (r i) := List.countP_congr fun x _ => ⟨h.sy x i, h.sy i x⟩
    rw [dsum, h.ir, e]
    simp only [Bool.toNat_false]
    omega
theorem sum_odd (f : Nat → Nat) : ∀ W : List Nat, (W.map f).sum % 2 = W.countP (fun z => f z % 2 == 1) % 2
  | [] => rfl
  | z :: W => by
    have ih := sum_odd f W
    rw [List.map_cons, List.sum_cons, List.countP_cons]
    by_cases h : f z % 2 = 1
    · rw [if_pos (by simp [h])]; omega
    · rw [if_neg (by simp [h])]; omega
/-- of those that are linked, an even number has an odd number of edges -/
theorem odd_even (h : Sg n r) {c : Nat → Bool} (hc : ∀ x y, c x = true → r x y = true → c y = true) : (List.range n).countP (fun z => c z && (degR n r z % 2 == 1)) % 2 = 0 := by
  have h1 := dsum_even h ((List.range n).filter c)
  rw [dsum_sum, sum_odd, List.countP_filter] at h1
  rw [← h1]
  congr 1
  refine List.countP_congr fun z hz => ?_
  cases hcz : c z
  · simp
  · have : degW r ((List.range n).filter c) z = degR n r z := by
      unfold degW degR
      rw [List.countP_filter]
      refine List.countP_congr fun y _ => ?_
      cases hr : r z y
      · simp
      · simp [hc z y hcz hr]
    rw [this]; simp
theorem countP_upd1 {p q : Nat → Bool} {z : Nat} (h : ∀ x, x ≠ z → p x = q x) : ∀ {W : List Nat}, W.Nodup → z ∈ W → W.countP p + (q z).toNat = W.countP q + (p z).toNat
  | b :: W, hn, hz => by
    rw [List.nodup_cons] at hn
    rw [List.countP_cons, List.countP_cons]
    by_cases e : b = z
    · subst e
      rw [show W.countP p = W.countP q from List.countP_congr fun x hx => by rw [h x (fun e => hn.1 (e ▸ hx))]]
      cases p b <;> cases q b <;> simp
    · have := countP_upd1 (p := p) (q := q) h hn.2 ((List.mem_cons.1 hz).resolve_left (fun e' => e e'.symm))
      rw [h b e]
      omega
theorem deg_rem (h : Sg n r) (haj : r a j = true) (x : Nat) : degR n (remE r a j) x + (if x = a ∨ x = j then 1 else 0) = degR n r x := by
  have ha := h.lt _ _ haj
  have hj := h.lt _ _ (h.sy _ _ haj)
  have hne : a ≠ j := fun e => by rw [e, h.ir] at haj; cases haj
  unfold degR
  by_cases e1 : x = a
  · subst e1
    rw [if_pos (.inl rfl)]
    have := countP_upd1 (p := remE r x j x) (q := r x) (z := j) (fun y hy => by
      unfold remE
      rw [decide_eq_false (by omega)]; simp) List.nodup_range (List.mem_range.2 hj)
    rw [haj, show remE r x j x j = false by unfold remE; simp] at this
    simpa using this
  · by_cases e2 : x = j
    · subst e2
      rw [if_pos (.inr rfl)]
      have := countP_upd1 (p := remE r a x x) (q := r x) (z := a) (fun y hy => by
        unfold remE
        rw [decide_eq_false (by omega)]; simp) List.nodup_range (List.mem_range.2 ha)
      rw [h.sy _ _ haj, show remE r a x x a = false by unfold remE; simp] at this
      simpa using this
    · rw [if_neg (by omega), Nat.add_zero]
      refine List.countP_congr fun y _ => ?_
      unfold remE
      rw [decide_eq_false (by omega)]; simp
/-- where one is, and what is left -/
structure TwI (n : Nat) (r : Nat → Nat → Bool) (s a : Nat) : Prop where
  sg : Sg n r
  one : oneR r a
  par : ∀ x, degR n r x % 2 = if s ≠ a ∧ (x = s ∨ x = a) then 1 else 0
variable {s : Nat}
theorem TwI.beg (h : Sg n r) (h1 : oneR r a) (hp : ∀ x, degR n r x % 2 = 0) : TwI n r a a := ⟨h, h1, fun x => by rw [if_neg (fun e => e.1 rfl), hp]⟩
theorem TwI.step (h : TwI n r s a) (haj : r a j = true) (ho : oneR (remE r a j) j) : TwI n (remE r a j) s j := by
  refine ⟨h.sg.rem a j, ho, fun x => ?_⟩
  have h1 := deg_rem h.sg haj x
  have h2 := h.par x
  have hne : a ≠ j := fun e => by rw [e, h.sg.ir] at haj; cases haj
  by_cases e1 : x = a
  · subst e1
    rw [if_pos (.inl rfl)] at h1
    by_cases e2 : s = x
    · subst e2
      rw [if_neg (fun e => e.1 rfl)] at h2
      rw [if_pos ⟨hne, .inl rfl⟩]; omega
    · rw [if_pos ⟨e2, .inr rfl⟩] at h2
      rw [if_neg (by omega)]; omega
  · by_cases e2 : x = j
    · subst e2
      rw [if_pos (.inr rfl)] at h1
      by_cases e3 : s = x
      · subst e3
        rw [if_pos ⟨fun e => e1 (by omega), .inl rfl⟩] at h2
        rw [if_neg (fun e => e.1 rfl)]; omega
      · rw [if_neg (by omega)] at h2
        rw [if_pos ⟨e3, .inr rfl⟩]; omega
    · rw [if_neg (by omega), Nat.add_zero] at h1
      rw [h1, h2]
      by_cases e3 : x = s
      · subst e3
        rw [if_pos ⟨e1, .inl rfl⟩, if_pos ⟨e2, .inl rfl⟩]
      · rw [if_neg (by omega), if_neg (by omega)]
theorem TwI.end_ (h : TwI n r s a) (h0 : ∀ x y, r x y = false) : s = a := by
  by_cases e : s = a
  · exact e
  · have := h.par a
    rw [if_pos ⟨e, .inr rfl⟩] at this
    unfold degR at this
    rw [List.countP_eq_zero.2 (fun y _ => by rw [h0]; decide)] at this
    cases this
/-- behind an edge without which one does not come back is the start -/
theorem TwI.bridge (h : TwI n r s a) (haj : r a j = true) (hb : ¬ Go (remE r a j) j a) : Go (remE r a j) j s := by
  classical
  have hS := h.sg.rem a j
  have hne : a ≠ j := fun e => by rw [e, h.sg.ir] at haj; cases haj
  have he := odd_even hS (c := fun z => decide (Go (remE r a j) j z)) (fun x y hx hxy => decide_eq_true (.step (of_decide_eq_true hx) hxy))
  refine Classical.byContradiction fun hs => ?_
  have hj := h.sg.lt _ _ (h.sg.sy _ _ haj)
  have : (List.range n).countP (fun z => decide (Go (remE r a j) j z) && (degR n (remE r a j) z % 2 == 1)) = 1 := by
    have h1 := countP_upd1 (p := fun z => decide (Go (remE r a j) j z) && (degR n (remE r a j) z % 2 == 1)) (q := fun _ => false) (z := j) (fun z hz => by
      by_cases hg : Go (remE r a j) j z
      · have hza : z ≠ a := fun e => hb (e ▸ hg)
        have hzs : z ≠ s := fun e => hs (e ▸ hg)
        have h2 := deg_rem h.sg haj z
        have h3 := h.par z
        rw [if_neg (by omega), Nat.add_zero] at h2
        rw [if_neg (by omega)] at h3
        rw [h2, h3]; simp
      · rw [decide_eq_false hg]; rfl) List.nodup_range (List.mem_range.2 hj)
    have hjs : j ≠ s := fun e => hs (e ▸ .refl)
    have h2 := deg_rem h.sg haj j
    have h3 := h.par j
    rw [if_pos (.inr rfl)] at h2
    rw [if_neg (by omega)] at h3
    have h4 : degR n (remE r a j) j % 2 = 1 := by omega
    have h5 : decide (Go (remE r a j) j j) = true := decide_eq_true .refl
    simp only [h4, h5, List.countP_false] at h1
    simpa using h1
  rw [this] at he
  cases he
/-- FLEURY: some edge goes on -/
theorem fleury (h : TwI n r s a) {x y : Nat} (hxy : r x y = true) : ∃ j, r a j = true ∧ oneR (remE r a j) j := by
  have hnb : ∀ {u v : Nat} {q : Nat → Nat → Bool}, q u v = true → Go q a u → ∃ j, q a j = true := fun {u v q} huv hg => by
    rcases hg.first with rfl | h
    · exact ⟨v, huv⟩
    · exact h
  obtain ⟨j, hj⟩ := hnb hxy (h.one x y hxy)
  by_cases h1 : oneR (remE r a j) j
  · exact ⟨j, hj, h1⟩
  have hb : ¬ Go (remE r a j) j a := fun hg => h1 fun u v huv => rem_all hg (h.one u v (remE_iff.1 huv).1)
  obtain ⟨u, v, huv, hno⟩ : ∃ u v, remE r a j u v = true ∧ ¬ Go (remE r a j) j u := Classical.byContradiction fun hn => h1 fun u v huv => Classical.byContradiction fun hg => hn ⟨u, v, huv, hg⟩
  have hau : Go (remE r a j) a u := (rem_two (h.one u v (remE_iff.1 huv).1)).resolve_right hno
  obtain ⟨k, hk⟩ := hnb huv hau
  have hk' := remE_iff.1 hk
  have hkj : k ≠ j := fun e => hk'.2 (.inl ⟨rfl, e⟩)
  refine ⟨k, hk'.1, Classical.byContradiction fun h2 => ?_⟩
  have hb2 : ¬ Go (remE r a k) k a := fun hg => h2 fun u v huv => rem_all hg (h.one u v (remE_iff.1 huv).1)
  have hs1 := h.bridge hj hb
  have hs2 := h.bridge hk'.1 hb2
  have hav : ∀ z, Go (remE r a j) j z → Go (remE r a k) j z := fun z hz => by
    induction hz with
    | refl => exact .refl
    | @step p q hp hpq ih =>
      have hpa : p ≠ a := fun e => hb (e ▸ hp)
      have hqa : q ≠ a := fun e => by
        have h9 := Go.step hp hpq
        rw [e] at h9
        exact hb h9
      exact .step ih (remE_iff.2 ⟨(remE_iff.1 hpq).1, by omega⟩)
  have h3 : Go (remE r a k) k j := hs2.trans (Go.back (h.sg.rem a k) (hav s hs1))
  have hja : a ≠ j := fun e => by rw [e, h.sg.ir] at hj; cases hj
  exact hb2 (.step h3 (remE_iff.2 ⟨h.sg.sy _ _ hj, by omega⟩))
end
/-- edge by edge, each taken away -/
inductive Wk : (Nat → Nat → Bool) → List Nat → (Nat → Nat → Bool) → Prop
  | one (r : Nat → Nat → Bool) (a : Nat) : Wk r [a] r
  | step {r r' : Nat → Nat → Bool} {a j : Nat} {l : List Nat} (h : r a j = true) (hw : Wk (remE r a j) (j :: l) r') : Wk r (a :: j :: l) r'
theorem Wk.snoc {r r' : Nat → Nat → Bool} {l : List Nat} (h : Wk r l r') : ∀ {j : Nat}, r' (l.getLast?.getD 0) j = true → Wk r (l ++ [j]) (remE r' (l.getLast?.getD 0) j) := by
  induction h with
  | one r a => exact fun h => .step h (.one _ _)
  | @step r r' a j l h hw ih =>
    intro k hk
    rw [List.getLast?_cons_cons] at hk ⊢
    exact .step h (ih hk)
end Go.Proofs.YtbghkpkpmbbghaaDoor
