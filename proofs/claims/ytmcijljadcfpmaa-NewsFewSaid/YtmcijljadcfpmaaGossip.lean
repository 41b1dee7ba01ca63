/- The theorem of the telephones, for eight people at most: no program in sight. -/
import Derived.Test.YtmcijljadcfpmaaBase
namespace Go.Proofs.Ytmcijljadcfpmaa

abbrev GC := Nat × Nat
/-- with whom one talks in a call; else it is itself -/
def oth (c : GC) (u : Nat) : Nat := if u = c.1 then c.2 else if u = c.2 then c.1 else u
theorem oth_oth (c : GC) (u : Nat) : oth c (oth c u) = u := by
  unfold oth
  by_cases h1 : u = c.1
  · rw [if_pos h1]
    by_cases h2 : c.2 = c.1
    · rw [if_pos h2]; omega
    · rw [if_neg h2, if_pos rfl]; exact h1.symm
  · rw [if_neg h1]
    by_cases h2 : u = c.2
    · rw [if_pos h2, if_pos rfl]; exact h2.symm
    · rw [if_neg h2, if_neg h1, if_neg h2]
/-- what v has at first u has in the end -/
def Fl : List GC → Nat → Nat → Prop
  | [], v, u => v = u
  | c :: cs, v, u => Fl cs v u ∨ Fl cs (oth c v) u
theorem Fl.refl : ∀ (cs : List GC) (v : Nat), Fl cs v v
  | [], _ => rfl
  | _ :: cs, v => .inl (Fl.refl cs v)
theorem Fl.app : ∀ (p q : List GC) (v u : Nat), Fl (p ++ q) v u ↔ ∃ w, Fl p v w ∧ Fl q w u
  | [], q, v, u => ⟨fun h => ⟨v, rfl, h⟩, fun ⟨w, h1, h2⟩ => by cases (show v = w from h1); exact h2⟩
  | c :: p, q, v, u => by
    show Fl (p ++ q) v u ∨ Fl (p ++ q) (oth c v) u ↔ _
    rw [Fl.app p q v u, Fl.app p q (oth c v) u]
    constructor
    · rintro (⟨w, h1, h2⟩ | ⟨w, h1, h2⟩)
      · exact ⟨w, .inl h1, h2⟩
      · exact ⟨w, .inr h1, h2⟩
    · rintro ⟨w, h1 | h1, h2⟩
      · exact .inl ⟨w, h1, h2⟩
      · exact .inr ⟨w, h1, h2⟩
/-- without the calls of X -/
def noA (X : Nat) (cs : List GC) : List GC := cs.filter fun c => oth c X == X
theorem noA_app (X : Nat) (p q : List GC) : noA X (p ++ q) = noA X p ++ noA X q := List.filter_append ..
theorem noA_keep {X : Nat} {c : GC} {cs : List GC} (h : oth c X = X) : noA X (c :: cs) = c :: noA X cs := by simp [noA, h]
theorem noA_drop {X : Nat} {c : GC} {cs : List GC} (h : oth c X ≠ X) : noA X (c :: cs) = noA X cs := by simp [noA, h]
theorem oth_ne {c : GC} {X a : Nat} (h : oth c X = X) (ha : a ≠ X) : oth c a ≠ X := fun e => by
  have := oth_oth c a
  rw [e, h] at this
  exact ha this.symm
theorem oth_self {c : GC} {X B : Nat} (h : oth c X ≠ X) (hB : B ≠ X) (h2 : oth c B ≠ X) : oth c B = B := by
  obtain ⟨a, b⟩ := c
  unfold oth at *
  dsimp only at *
  by_cases e1 : X = a
  · rw [if_pos e1] at h
    by_cases e2 : B = a
    · omega
    · rw [if_neg e2] at h2 ⊢
      by_cases e3 : B = b
      · rw [if_pos e3] at h2; omega
      · rw [if_neg e3]
  · rw [if_neg e1] at h
    by_cases e4 : X = b
    · by_cases e2 : B = a
      · rw [if_pos e2] at h2; omega
      · rw [if_neg e2, if_neg (by omega)]
    · rw [if_neg e4] at h; exact absurd rfl h
theorem noA_stay {X : Nat} : ∀ {q : List GC} {a u : Nat}, a ≠ X → Fl (noA X q) a u → u ≠ X
  | [], a, u, ha, h => by cases (show a = u from h); exact ha
  | c :: q, a, u, ha, h => by
    by_cases hc : oth c X = X
    · rw [noA_keep hc] at h
      rcases h with h | h
      · exact noA_stay ha h
      · exact noA_stay (oth_ne hc ha) h
    · rw [noA_drop hc] at h
      exact noA_stay ha h
theorem noA_more {X : Nat} {c : GC} {q : List GC} {a u : Nat} (h : Fl (noA X q) a u) : Fl (noA X (c :: q)) a u := by
  by_cases hc : oth c X = X
  · rw [noA_keep hc]; exact .inl h
  · rw [noA_drop hc]; exact h
/-- without X, or up to where X is told first -/
theorem avoid {X : Nat} : ∀ (p : List GC) (B a : Nat), B ≠ X → Fl p B a →
    Fl (noA X p) B a ∨ ∃ p1 c p2, p = p1 ++ c :: p2 ∧ oth c X ≠ X ∧ Fl (noA X p1) B (oth c X) ∧ Fl p2 X a
  | [], B, a, _, h => .inl h
  | c :: p, B, a, hB, h => by
    have caseA : Fl p B a → _ := fun h => avoid p B a hB h
    have fromA : Fl p B a → Fl (noA X (c :: p)) B a ∨ ∃ p1 c' p2, c :: p = p1 ++ c' :: p2 ∧ oth c' X ≠ X ∧ Fl (noA X p1) B (oth c' X) ∧ Fl p2 X a := fun h => by
      rcases caseA h with h1 | ⟨p1, c', p2, rfl, h2, h3, h4⟩
      · exact .inl (noA_more h1)
      · exact .inr ⟨c :: p1, c', p2, rfl, h2, noA_more h3, h4⟩
    rcases h with h | h
    · exact fromA h
    · by_cases hX : oth c B = X
      · have hcx : oth c X = B := by rw [← hX, oth_oth]
        rw [hX] at h
        exact .inr ⟨[], c, p, rfl, by rw [hcx]; exact hB, show B = oth c X from hcx.symm, h⟩
      · by_cases hc : oth c X = X
        · rcases avoid p (oth c B) a hX h with h1 | ⟨p1, c', p2, rfl, h2, h3, h4⟩
          · exact .inl (by rw [noA_keep hc]; exact .inr h1)
          · exact .inr ⟨c :: p1, c', p2, rfl, h2, by rw [noA_keep hc]; exact .inr h3, h4⟩
        · rw [oth_self hc hB hX] at h
          exact fromA h
/-- from where X told it last -/
theorem goesOut {X : Nat} : ∀ (n : Nat) (p : List GC) (a : Nat), p.length ≤ n → a ≠ X → Fl p X a →
    ∃ p1 c p2, p = p1 ++ c :: p2 ∧ oth c X ≠ X ∧ Fl (noA X p2) (oth c X) a
  | _, [], a, _, ha, h => absurd (show X = a from h).symm ha
  | 0, c :: p, a, hl, _, _ => by simp at hl
  | n + 1, c :: p, a, hl, ha, h => by
    have hl' : p.length ≤ n := by simpa using hl
    have first : Fl p X a → ∃ p1 c' p2, c :: p = p1 ++ c' :: p2 ∧ oth c' X ≠ X ∧ Fl (noA X p2) (oth c' X) a := fun h => by
      obtain ⟨p1, c', p2, rfl, h1, h2⟩ := goesOut n p a hl' ha h
      exact ⟨c :: p1, c', p2, rfl, h1, h2⟩
    rcases h with h | h
    · exact first h
    · by_cases hc : oth c X = X
      · rw [hc] at h; exact first h
      · rcases avoid p (oth c X) a hc h with h1 | ⟨q1, c', q2, rfl, _, _, h4⟩
        · exact ⟨[], c, p, rfl, hc, h1⟩
        · obtain ⟨p1, c2, p2, rfl, h5, h6⟩ := goesOut n q2 a (by simp at hl'; omega) ha h4
          exact ⟨c :: (q1 ++ c' :: p1), c2, p2, by simp, h5, h6⟩
/-- X hears its own -/
def HO (X : Nat) (cs : List GC) : Prop := ∃ p c q c' r, cs = p ++ c :: (q ++ c' :: r) ∧ oth c X ≠ X ∧ oth c' X ≠ X ∧ Fl (noA X q) (oth c X) (oth c' X)
theorem ho_of {X a : Nat} {p s : List GC} (ha : a ≠ X) (h1 : Fl p X a) (h2 : Fl s a X) : HO X (p ++ s) := by
  obtain ⟨p1, c, p2, rfl, h3, h4⟩ := goesOut _ p a (Nat.le_refl _) ha h1
  rcases avoid s a X ha h2 with h5 | ⟨s1, c', s2, rfl, h6, h7, _⟩
  · exact absurd rfl (noA_stay ha h5)
  · exact ⟨p1, c, p2 ++ s1, c', s2, by simp, h3, h6, by rw [noA_app, Fl.app]; exact ⟨a, h4, h7⟩⟩
/-! ## one who hears its own can be left out -/
def stp (c : GC) (K : Nat → Nat → Prop) : Nat → Nat → Prop := fun u v => K u v ∨ K (oth c u) v
def rn (cs : List GC) (K : Nat → Nat → Prop) : Nat → Nat → Prop := cs.foldl (fun K c => stp c K) K
theorem rn_iff : ∀ (cs : List GC) (K : Nat → Nat → Prop) (u v : Nat), rn cs K u v ↔ ∃ w, Fl cs w u ∧ K w v
  | [], K, u, v => ⟨fun h => ⟨u, rfl, h⟩, fun ⟨w, h1, h2⟩ => by cases (show w = u from h1); exact h2⟩
  | c :: cs, K, u, v => by
    show rn cs (stp c K) u v ↔ _
    rw [rn_iff cs]
    constructor
    · rintro ⟨w, h1, h2 | h2⟩
      · exact ⟨w, .inl h1, h2⟩
      · exact ⟨oth c w, .inr (by rw [oth_oth]; exact h1), h2⟩
    · rintro ⟨w, h1 | h1, h2⟩
      · exact ⟨w, h1, .inl h2⟩
      · exact ⟨oth c w, h1, .inr (by rw [oth_oth]; exact h2)⟩
theorem rn_app (p q : List GC) (K : Nat → Nat → Prop) : rn (p ++ q) K = rn q (rn p K) := by simp [rn]
/-- all but X know as much, and B what X does -/
def Rp (X B : Nat) (K K' : Nat → Nat → Prop) : Prop := (∀ u v, u ≠ X → v ≠ X → K u v → K' u v) ∧ ∀ v, v ≠ X → K X v → K' B v
def subC (X B : Nat) (c : GC) : GC := (if c.1 = X then B else c.1, if c.2 = X then B else c.2)
theorem Rp.keep {X B : Nat} {K K' : Nat → Nat → Prop} {c : GC} (hc : oth c X = X) (h : Rp X B K K') : Rp X B (stp c K) (stp c K') := by
  refine ⟨fun u v hu hv => ?_, fun v hv => ?_⟩
  · rintro (h1 | h1)
    · exact .inl (h.1 u v hu hv h1)
    · exact .inr (h.1 _ v (oth_ne hc hu) hv h1)
  · rintro (h1 | h1)
    · exact .inl (h.2 v hv h1)
    · rw [hc] at h1; exact .inl (h.2 v hv h1)
theorem Rp.move {X B : Nat} {K K' : Nat → Nat → Prop} {c : GC} (hc : oth c X = X) (h : Rp X B K K') : Rp X (oth c B) (stp c K) (stp c K') := by
  refine ⟨(h.keep hc).1, fun v hv => ?_⟩
  rintro (h1 | h1)
  · exact .inr (by rw [oth_oth]; exact h.2 v hv h1)
  · rw [hc] at h1; exact .inr (by rw [oth_oth]; exact h.2 v hv h1)
theorem oth_fst (a b : Nat) : oth (a, b) a = b := if_pos rfl
theorem oth_snd (a b : Nat) : oth (a, b) b = a := by
  unfold oth
  dsimp only
  split
  · assumption
  · rw [if_pos rfl]
theorem oth_out {a b u : Nat} (h1 : u ≠ a) (h2 : u ≠ b) : oth (a, b) u = u := by unfold oth; rw [if_neg h1, if_neg h2]
theorem Rp.sub {X B C : Nat} {K K' : Nat → Nat → Prop} {c c' : GC} (hC : C ≠ X) (hc : c = (X, C) ∨ c = (C, X)) (hc' : c' = (B, C) ∨ c' = (C, B)) (h : Rp X B K K') : Rp X B (stp c K) (stp c' K') := by
  have o1 : oth c X = C := by rcases hc with rfl | rfl; exact oth_fst _ _; exact oth_snd _ _
  have o2 : oth c C = X := by rcases hc with rfl | rfl; exact oth_snd _ _; exact oth_fst _ _
  have o3 : oth c' B = C := by rcases hc' with rfl | rfl; exact oth_fst _ _; exact oth_snd _ _
  have o4 : oth c' C = B := by rcases hc' with rfl | rfl; exact oth_snd _ _; exact oth_fst _ _
  refine ⟨fun u v hu hv => ?_, fun v hv => ?_⟩
  · rintro (h1 | h1)
    · exact .inl (h.1 u v hu hv h1)
    · by_cases e : u = C
      · subst e
        rw [o2] at h1
        exact .inr (by rw [o4]; exact h.2 v hv h1)
      · have : oth c u = u := by rcases hc with rfl | rfl; exact oth_out hu e; exact oth_out e hu
        rw [this] at h1
        exact .inl (h.1 u v hu hv h1)
  · rintro (h1 | h1)
    · exact .inl (h.2 v hv h1)
    · rw [o1] at h1
      exact .inr (by rw [o3]; exact h.1 C v hC hv h1)
theorem Rp.skip {X B : Nat} {K K' : Nat → Nat → Prop} {c : GC} (hc : oth c X = B) (hB : B ≠ X) (h : Rp X B K K') : Rp X B (stp c K) K' := by
  refine ⟨fun u v hu hv => ?_, fun v hv => ?_⟩
  · rintro (h1 | h1)
    · exact h.1 u v hu hv h1
    · by_cases e : u = B
      · subst e
        have : oth c u = X := by rw [← hc, oth_oth]
        rw [this] at h1
        exact h.2 v hv h1
      · have h3 : oth c u ≠ X := fun e2 => e (by rw [← hc, ← e2, oth_oth])
        have : oth c u = u := oth_self (by rw [hc]; exact hB) hu h3
        rw [this] at h1
        exact h.1 u v hu hv h1
  · rintro (h1 | h1)
    · exact h.2 v hv h1
    · rw [hc] at h1; exact h.1 B v hB hv h1
theorem call_split {X : Nat} {c : GC} (h : oth c X ≠ X) : ∃ C, C ≠ X ∧ (c = (X, C) ∨ c = (C, X)) := by
  obtain ⟨a, b⟩ := c
  unfold oth at h
  dsimp only at h
  split at h
  · rename_i e; subst e; exact ⟨b, h, .inl rfl⟩
  · split at h
    · rename_i e; subst e; exact ⟨a, h, .inr rfl⟩
    · exact absurd rfl h
theorem red_mid {X : Nat} : ∀ (q : List GC) (B E : Nat) (K K' : Nat → Nat → Prop), B ≠ X → Fl (noA X q) B E → Rp X B K K' → ∃ q' : List GC, q'.length = q.length ∧ Rp X E (rn q K) (rn q' K')
  | [], B, E, K, K', _, h, hR => by cases (show B = E from h); exact ⟨[], rfl, hR⟩
  | c :: q, B, E, K, K', hB, h, hR => by
    by_cases hc : oth c X = X
    · rw [noA_keep hc] at h
      rcases h with h | h
      · obtain ⟨q', h1, h2⟩ := red_mid q B E _ _ hB h (hR.keep hc)
        exact ⟨c :: q', by simp [h1], h2⟩
      · obtain ⟨q', h1, h2⟩ := red_mid q _ E _ _ (oth_ne hc hB) h (hR.move hc)
        exact ⟨c :: q', by simp [h1], h2⟩
    · rw [noA_drop hc] at h
      obtain ⟨C, hC, hcc⟩ := call_split hc
      obtain ⟨q', h1, h2⟩ := red_mid q B E _ _ hB h (hR.sub hC hcc (.inl rfl))
      exact ⟨(B, C) :: q', by simp [h1], h2⟩
theorem HO.less {X : Nat} {cs : List GC} (h : HO X cs) : ∃ cs' : List GC, cs'.length + 2 = cs.length ∧ ∀ u v, u ≠ X → v ≠ X → Fl cs v u → Fl cs' v u := by
  obtain ⟨p, c, q, c', r, rfl, h1, h2, h3⟩ := h
  obtain ⟨p', e1, r1⟩ := red_mid p (oth c X) (oth c X) (fun u v => u = v) (fun u v => u = v) h1 (Fl.refl _ _) ⟨fun u v _ _ h => h, fun v hv h => absurd h.symm hv⟩
  have r2 := r1.skip (c := c) rfl h1
  obtain ⟨q', e2, r3⟩ := red_mid q _ _ _ _ h1 h3 r2
  have r4 := r3.skip (c := c') rfl h2
  obtain ⟨r', e3, r5⟩ := red_mid r _ _ _ _ h2 (Fl.refl _ _) r4
  refine ⟨p' ++ (q' ++ r'), by simp; omega, fun u v hu hv hf => ?_⟩
  have h5 := r5.1 u v hu hv
  have h6 : rn r (stp c' (rn q (stp c (rn p fun u v => u = v)))) u v := by
    have : rn (p ++ c :: (q ++ c' :: r)) (fun u v => u = v) u v := (rn_iff _ _ _ _).2 ⟨v, hf, rfl⟩
    rw [rn_app] at this
    show rn r (stp c' (rn q (stp c (rn p fun u v => u = v)))) u v
    have e : rn (c :: (q ++ c' :: r)) (rn p fun u v => u = v) = rn r (stp c' (rn q (stp c (rn p fun u v => u = v)))) := by
      show rn (q ++ c' :: r) (stp c (rn p fun u v => u = v)) = _
      rw [rn_app]; rfl
    rw [e] at this; exact this
  have h7 := h5 h6
  rw [← rn_app, ← rn_app, rn_iff] at h7
  obtain ⟨w, hw, e⟩ := h7
  subst e
  exact hw
/-! ## where nobody hears its own -/
open Classical in
noncomputable def cnt (P : List Nat) (f : Nat → Prop) : Nat := P.countP fun u => decide (f u)
theorem cnt_congr {P : List Nat} {f g : Nat → Prop} (h : ∀ u, f u ↔ g u) : cnt P f = cnt P g := by
  have : f = g := funext fun u => propext (h u)
  rw [this]
theorem cnt_cons (a : Nat) (P : List Nat) (f : Nat → Prop) : (f a → cnt (a :: P) f = cnt P f + 1) ∧ (¬ f a → cnt (a :: P) f = cnt P f) := by
  unfold cnt
  rw [List.countP_cons]
  exact ⟨fun h => by rw [if_pos (by simpa using h)], fun h => by rw [if_neg (by simpa using h)]; rfl⟩
theorem cnt_zero {P : List Nat} {f : Nat → Prop} (h : ∀ u ∈ P, ¬ f u) : cnt P f = 0 := by
  unfold cnt
  rw [List.countP_eq_zero]
  intro u hu; simpa using h u hu
theorem cnt_one {P : List Nat} (hP : P.Nodup) (x : Nat) : cnt P (fun u => u = x) ≤ 1 := by
  induction P with
  | nil => unfold cnt; simp
  | cons a P ih =>
    rw [List.nodup_cons] at hP
    have := ih hP.2
    by_cases e : a = x
    · have h0 : cnt P (fun u => u = x) = 0 := cnt_zero fun u hu e2 => by
        rw [e2, ← e] at hu
        exact hP.1 hu
      have := (cnt_cons a P (fun u => u = x)).1 e
      omega
    · have := (cnt_cons a P (fun u => u = x)).2 e
      omega
theorem cnt_or (P : List Nat) (f g : Nat → Prop) : cnt P (fun u => f u ∨ g u) ≤ cnt P f + cnt P g := by
  induction P with
  | nil => unfold cnt; simp
  | cons a P ih =>
    obtain ⟨f1, f0⟩ := cnt_cons a P f
    obtain ⟨g1, g0⟩ := cnt_cons a P g
    obtain ⟨h1, h0⟩ := cnt_cons a P (fun u => f u ∨ g u)
    by_cases hf : f a
    · have := h1 (.inl hf); have := f1 hf
      by_cases hg : g a
      · have := g1 hg; omega
      · have := g0 hg; omega
    · have := f0 hf
      by_cases hg : g a
      · have := g1 hg; have := h1 (.inr hg); omega
      · have := g0 hg; have := h0 (by rintro (h | h); exact hf h; exact hg h); omega
theorem cnt_mono {P : List Nat} {f g : Nat → Prop} (h : ∀ u, f u → g u) : cnt P f ≤ cnt P g := by
  unfold cnt
  exact List.countP_mono_left fun u _ hu => by simpa using h u (by simpa using hu)
theorem cnt_step {P : List Nat} (hP : P.Nodup) (K : Nat → Prop) (c : GC) : cnt P (fun u => K u ∨ K (oth c u)) ≤ cnt P K + 1 ∧ ((K c.1 ↔ K c.2) → cnt P (fun u => K u ∨ K (oth c u)) = cnt P K) := by
  obtain ⟨a, b⟩ := c
  constructor
  · have key : ∀ x, (∀ u, K u ∨ K (oth (a, b) u) → K u ∨ u = x) → cnt P (fun u => K u ∨ K (oth (a, b) u)) ≤ cnt P K + 1 := fun x h => by
      have h1 : cnt P (fun u => K u ∨ K (oth (a, b) u)) ≤ cnt P (fun u => K u ∨ u = x) := cnt_mono h
      have h2 := cnt_or P K (fun u => u = x)
      have h3 := cnt_one hP x
      omega
    by_cases hb : K b
    · refine key a fun u hu => ?_
      rcases hu with hu | hu
      · exact .inl hu
      · by_cases e : u = a
        · exact .inr e
        · by_cases e2 : u = b
          · subst e2; exact .inl hb
          · rw [oth_out e e2] at hu; exact .inl hu
    · refine key b fun u hu => ?_
      rcases hu with hu | hu
      · exact .inl hu
      · by_cases e : u = a
        · subst e; rw [oth_fst] at hu; exact absurd hu hb
        · by_cases e2 : u = b
          · exact .inr e2
          · rw [oth_out e e2] at hu; exact .inl hu
  · intro h
    refine cnt_congr fun u => ⟨fun hu => ?_, .inl⟩
    rcases hu with hu | hu
    · exact hu
    · by_cases e : u = a
      · subst e; rw [oth_fst] at hu; exact h.2 hu
      · by_cases e2 : u = b
        · subst e2; rw [oth_snd] at hu; exact h.1 hu
        · rw [oth_out e e2] at hu; exact hu
theorem Fl.snoc (p : List GC) (c : GC) (X u : Nat) : Fl (p ++ [c]) X u ↔ Fl p X u ∨ Fl p X (oth c u) := by
  rw [Fl.app]
  constructor
  · rintro ⟨w, h1, h2 | h2⟩
    · cases (show w = u from h2); exact .inl h1
    · have : oth c w = u := h2
      exact .inr (by rw [← this, oth_oth]; exact h1)
  · rintro (h | h)
    · exact ⟨u, h, .inl rfl⟩
    · exact ⟨_, h, .inr (oth_oth c u)⟩
/-- in each call but X's own one more at most: is told of X, or can tell X -/
theorem gain {P : List Nat} (hP : P.Nodup) {X : Nat} (p s : List GC) (c : GC) (hno : ¬ HO X (p ++ c :: s)) :
    cnt P (fun u => Fl (p ++ [c]) X u) + cnt P (fun u => Fl (c :: s) u X) ≤ cnt P (fun u => Fl p X u) + cnt P (fun u => Fl s u X) + 1 + (if oth c X = X then 0 else 1) := by
  have e1 : cnt P (fun u => Fl (p ++ [c]) X u) = cnt P (fun u => Fl p X u ∨ Fl p X (oth c u)) := cnt_congr fun u => Fl.snoc p c X u
  have e2 : cnt P (fun u => Fl (c :: s) u X) = cnt P (fun u => Fl s u X ∨ Fl s (oth c u) X) := rfl
  rw [e1, e2]
  obtain ⟨a1, a2⟩ := cnt_step hP (fun u => Fl p X u) c
  obtain ⟨b1, b2⟩ := cnt_step hP (fun u => Fl s u X) c
  by_cases hX : oth c X = X
  · rw [if_pos hX]
    by_cases h1 : Fl p X c.1 ↔ Fl p X c.2
    · have := a2 h1; omega
    · by_cases h2 : Fl s c.1 X ↔ Fl s c.2 X
      · have := b2 h2; omega
      · exfalso
        -- X is told of its own
        have hs : ∀ x, (x = c.1 ∨ x = c.2) → Fl (c :: s) x X := fun x hx => by
          have hz : Fl s c.1 X ∨ Fl s c.2 X := by
            by_cases h : Fl s c.1 X
            · exact .inl h
            · exact .inr (Classical.byContradiction fun h' => h2 ⟨fun q => absurd q h, fun q => absurd q h'⟩)
          obtain ⟨a, b⟩ := c
          dsimp only at hx hz
          rcases hx with rfl | rfl
          · rcases hz with h | h
            · exact .inl h
            · exact .inr (by rw [oth_fst]; exact h)
          · rcases hz with h | h
            · exact .inr (by rw [oth_snd]; exact h)
            · exact .inl h
        have hne : c.1 = X → c.2 = X := fun e => by
          obtain ⟨a, b⟩ := c
          dsimp only at e ⊢
          subst e; rw [oth_fst] at hX; exact hX
        have hne2 : c.2 = X → c.1 = X := fun e => by
          obtain ⟨a, b⟩ := c
          dsimp only at e ⊢
          subst e; rw [oth_snd] at hX; exact hX
        have hnX1 : c.1 ≠ X := fun e => h1 (by rw [e, hne e])
        have hnX2 : c.2 ≠ X := fun e => hnX1 (hne2 e)
        by_cases h : Fl p X c.1
        · exact hno (ho_of hnX1 h (hs _ (.inl rfl)))
        · have h' : Fl p X c.2 := Classical.byContradiction fun h' => h1 ⟨fun q => absurd q h, fun q => absurd q h'⟩
          exact hno (ho_of hnX2 h' (hs _ (.inr rfl)))
  · rw [if_neg hX]; omega
def talks (X : Nat) (cs : List GC) : Nat := cs.countP fun c => oth c X != X
theorem gains {P : List Nat} (hP : P.Nodup) {X : Nat} {cs : List GC} (hno : ¬ HO X cs) : ∀ (i : Nat), i ≤ cs.length →
    cnt P (fun u => Fl (cs.take i) X u) + cnt P (fun u => Fl cs u X) ≤ cnt P (fun u => u = X) + cnt P (fun u => Fl (cs.drop i) u X) + i + talks X (cs.take i)
  | 0, _ => by
    have e : cnt P (fun u => Fl (cs.take 0) X u) = cnt P (fun u => u = X) := cnt_congr fun u => by
      rw [List.take_zero]; exact eq_comm
    rw [e, List.drop_zero]; omega
  | i + 1, hi => by
    have ih := gains hP hno i (by omega)
    have hlt : i < cs.length := hi
    have e1 : cs.take (i + 1) = cs.take i ++ [cs[i]] := by rw [List.take_add_one, List.getElem?_eq_getElem hlt]; rfl
    have e2 : cs.drop i = cs[i] :: cs.drop (i + 1) := List.drop_eq_getElem_cons hlt
    have hg := gain hP (X := X) (cs.take i) (cs.drop (i + 1)) cs[i] (by rw [← e2, List.take_append_drop]; exact hno)
    rw [← e1, ← e2] at hg
    have ht : talks X (cs.take (i + 1)) = talks X (cs.take i) + if oth cs[i] X = X then 0 else 1 := by
      unfold talks
      rw [e1, List.countP_append, List.countP_singleton]
      by_cases h : oth cs[i] X = X
      · simp [h]
      · simp [h]
    rw [ht]; omega
theorem talks_many {P : List Nat} {X : Nat} {cs : List GC} (hP : P.Nodup) (hX : X ∈ P) (hno : ¬ HO X cs) (hall : ∀ u ∈ P, ∀ v ∈ P, Fl cs v u) : 2 * P.length ≤ 2 + cs.length + talks X cs := by
  have h := gains hP hno cs.length (Nat.le_refl _)
  rw [List.take_length, List.drop_length] at h
  have full : ∀ f : Nat → Prop, (∀ u ∈ P, f u) → cnt P f = P.length := fun f hf => by
    unfold cnt
    rw [List.countP_eq_length]
    intro u hu; simpa using hf u hu
  rw [full _ fun u hu => hall u hu X hX, full _ fun u hu => hall X hX u hu] at h
  have h1 := cnt_one hP X
  have e : cnt P (fun u => Fl [] u X) = cnt P (fun u => u = X) := rfl
  rw [e] at h
  omega
def sumT (P : List Nat) (cs : List GC) : Nat := (P.map fun X => talks X cs).sum
theorem sumT_le {P : List Nat} (hP : P.Nodup) : ∀ cs : List GC, sumT P cs ≤ 2 * cs.length
  | [] => by
    have : ∀ P : List Nat, sumT P [] = 0 := fun P => by induction P with
      | nil => rfl
      | cons a P ih => show talks a [] + sumT P [] = 0; rw [ih]; rfl
    rw [this]; omega
  | c :: cs => by
    have ih := sumT_le hP cs
    have e : ∀ P : List Nat, sumT P (c :: cs) = sumT P cs + P.countP (fun X => oth c X != X) := fun P => by
      induction P with
      | nil => rfl
      | cons a P ih =>
        show talks a (c :: cs) + sumT P (c :: cs) = talks a cs + sumT P cs + _
        rw [ih, List.countP_cons]
        unfold talks
        rw [List.countP_cons]
        omega
    have h2 : P.countP (fun X => oth c X != X) ≤ 2 := by
      have h1 : P.countP (fun X => oth c X != X) ≤ cnt P (fun u => u = c.1 ∨ u = c.2) := by
        unfold cnt
        refine List.countP_mono_left fun u _ hu => ?_
        have hu : oth c u ≠ u := by simpa using hu
        simp only [decide_eq_true_eq]
        refine Classical.byContradiction fun hn => hu ?_
        exact oth_out (fun e => hn (.inl e)) (fun e => hn (.inr e))
      have h3 := cnt_or P (fun u => u = c.1) (fun u => u = c.2)
      have h4 := cnt_one hP c.1
      have h5 := cnt_one hP c.2
      omega
    rw [e P, List.length_cons]; omega
theorem sum_ge (P : List Nat) (cs : List GC) (k : Nat) (h : ∀ X ∈ P, k ≤ talks X cs) : P.length * k ≤ sumT P cs := by
  induction P with
  | nil => simp
  | cons a P ih =>
    have h1 := ih fun X hX => h X (List.mem_cons_of_mem _ hX)
    have h2 := h a (by simp)
    show (P.length + 1) * k ≤ talks a cs + sumT P cs
    rw [Nat.add_mul]; omega
def leastC : Nat → Nat
  | 0 => 0
  | 1 => 0
  | 2 => 1
  | 3 => 3
  | n => 2 * n - 4
/-- no fewer calls, for eight at most -/
theorem gossip : ∀ (m : Nat) (P : List Nat) (cs : List GC), m ≤ 8 → P.Nodup → P.length = m → (∀ u ∈ P, ∀ v ∈ P, Fl cs v u) → leastC m ≤ cs.length
  | 0, _, _, _, _, _, _ => Nat.zero_le _
  | m + 1, P, cs, hm, hP, hl, hall => by
    by_cases hho : ∃ X ∈ P, HO X cs
    · obtain ⟨X, hX, ho⟩ := hho
      obtain ⟨cs', h1, h2⟩ := ho.less
      have := gossip m (P.erase X) cs' (by omega) (hP.erase X) (by rw [List.length_erase_of_mem hX]; omega) fun u hu v hv => by
        rw [hP.mem_erase_iff] at hu hv
        exact h2 u v hu.1 hv.1 (hall u hu.2 v hv.2)
      have hL : leastC (m + 1) ≤ leastC m + 2 := by
        have : m = 0 ∨ m = 1 ∨ m = 2 ∨ m = 3 ∨ m = 4 ∨ m = 5 ∨ m = 6 ∨ m = 7 := by omega
        rcases this with rfl | rfl | rfl | rfl | rfl | rfl | rfl | rfl <;> decide
      omega
    · have hk : ∀ X ∈ P, 2 * (m + 1) - 2 - cs.length ≤ talks X cs := fun X hX => by
        have := talks_many hP hX (fun h => hho ⟨X, hX, h⟩) hall
        omega
      have h1 := sum_ge P cs _ hk
      have h2 := sumT_le hP cs
      rw [hl] at h1
      have : m = 0 ∨ m = 1 ∨ m = 2 ∨ m = 3 ∨ m = 4 ∨ m = 5 ∨ m = 6 ∨ m = 7 := by omega
      rcases this with rfl | rfl | rfl | rfl | rfl | rfl | rfl | rfl <;> simp only [leastC] <;> omega
end Go.Proofs.Ytmcijljadcfpmaa
