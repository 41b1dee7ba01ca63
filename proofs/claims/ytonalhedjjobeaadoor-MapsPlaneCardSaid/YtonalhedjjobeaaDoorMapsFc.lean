/- Rounds of a permutation of a list: their number; a swap of two makes one more, or one less. Maps: edges round nodes. How many faces: Euler's and Poincare's law. Plain. Going round all that has not been seen, one by one: how many rounds there are. Plain. maps.next: who comes along goes on. maps: a map from darts to counts (XPairMap turned to another struct as its key). maps.faces: how many rounds. -/
import Derived.Test.YtonalhedjjobeaaDoorBase
import Derived.Test.YtonalhedjjobeaaDoorForest
import Derived.Test.YtonalhedjjobeaaDoorOkL
import Derived.Test.YtonalhedjjobeaaDoorIndexI
import Derived.Test.YtonalhedjjobeaaDoorNatI
import Derived.Test.YtonalhedjjobeaaDoorRows2
import Derived.Test.YtonalhedjjobeaaDoorRow
import Derived.Test.YtonalhedjjobeaaDoorBlk
import Derived.Test.YtonalhedjjobeaaDoorLastW
import Derived.Test.YtonalhedjjobeaaDoorRows
import Derived.Test.YtonalhedjjobeaaDoorPairMap
import Derived.Laws.StructEq
import Derived.Deep.LoopGhost
namespace Go.Proofs.YtonalhedjjobeaaDoor

section
variable {α : Type}
/-- n steps on -/
def itn (f : α → α) : Nat → α → α
  | 0, x => x
  | n + 1, x => f (itn f n x)
theorem itn_add (f : α → α) (m : Nat) (x : α) : ∀ n, itn f (n + m) x = itn f n (itn f m x)
  | 0 => by simp [itn]
  | n + 1 => by rw [show n + 1 + m = (n + m) + 1 by omega]; simp only [itn]; rw [itn_add f m x n]
theorem itn_one (f : α → α) (n : Nat) (x : α) : itn f (n + 1) x = itn f n (f x) := by rw [itn_add f 1 x n]; rfl
/-- some steps on -/
def Orb (f : α → α) (x y : α) : Prop := ∃ n, itn f n x = y
theorem Orb.refl (f : α → α) (x : α) : Orb f x x := ⟨0, rfl⟩
theorem Orb.step (f : α → α) (x : α) : Orb f x (f x) := ⟨1, rfl⟩
theorem Orb.trans {f : α → α} {x y z : α} : Orb f x y → Orb f y z → Orb f x z := fun ⟨m, hm⟩ ⟨n, hn⟩ => ⟨n + m, by rw [itn_add, hm, hn]⟩
structure PermOn (D : List α) (f : α → α) : Prop where
  into : ∀ x ∈ D, f x ∈ D
  inj : ∀ x ∈ D, ∀ y ∈ D, f x = f y → x = y
section
variable {D : List α} {f : α → α}
theorem PermOn.itn (h : PermOn D f) {x : α} (hx : x ∈ D) : ∀ n, itn f n x ∈ D
  | 0 => hx
  | n + 1 => h.into _ (h.itn hx n)
theorem PermOn.back (h : PermOn D f) {x y : α} (hx : x ∈ D) (hy : y ∈ D) : ∀ n, Go.Proofs.YtonalhedjjobeaaDoor.itn f n x = Go.Proofs.YtonalhedjjobeaaDoor.itn f n y → x = y
  | 0, e => e
  | n + 1, e => h.back hx hy n (h.inj _ (h.itn hx n) _ (h.itn hy n) e)
theorem PermOn.orb (h : PermOn D f) {x y : α} (hx : x ∈ D) : Orb f x y → y ∈ D := fun ⟨n, e⟩ => e ▸ h.itn hx n
/-- each comes round -/
theorem PermOn.round (h : PermOn D f) {x : α} (hx : x ∈ D) : ∃ n, 0 < n ∧ Go.Proofs.YtonalhedjjobeaaDoor.itn f n x = x := by
  refine Classical.byContradiction fun hno => ?_
  have hnd : ((List.range (D.length + 1)).map fun i => Go.Proofs.YtonalhedjjobeaaDoor.itn f i x).Nodup := by
    rw [List.nodup_iff_pairwise_ne, List.pairwise_map]
    refine List.Pairwise.imp (R := fun a b => a < b) ?_ List.pairwise_lt_range
    intro i j hij e
    refine hno ⟨j - i, by omega, ?_⟩
    have e2 : Go.Proofs.YtonalhedjjobeaaDoor.itn f i (Go.Proofs.YtonalhedjjobeaaDoor.itn f (j - i) x) = Go.Proofs.YtonalhedjjobeaaDoor.itn f i x := by rw [← itn_add, show i + (j - i) = j by omega]; exact e.symm
    exact h.back (h.itn hx _) hx i e2
  have h2 := hnd.length_le_of_subset (l₂ := D) fun y hy => by
    obtain ⟨i, _, rfl⟩ := List.mem_map.1 hy
    exact h.itn hx i
  simp at h2
  omega
theorem itn_mul {p : Nat} {x : α} (hp : itn f p x = x) : ∀ k, itn f (k * p) x = x
  | 0 => by rw [Nat.zero_mul]; rfl
  | k + 1 => by rw [Nat.succ_mul, itn_add, hp, itn_mul hp k]
theorem PermOn.symm (h : PermOn D f) {x y : α} (hx : x ∈ D) : Orb f x y → Orb f y x := fun ⟨n, e⟩ => by
  obtain ⟨p, hp, he⟩ := h.round hx
  refine ⟨n * p - n, ?_⟩
  rw [← e, ← itn_add, Nat.sub_add_cancel (Nat.le_mul_of_pos_right n hp), itn_mul he]
end
/-- one of each round -/
structure Reps (R : α → α → Prop) (D l : List α) : Prop where
  sub : ∀ r ∈ l, r ∈ D
  nd : l.Nodup
  ne : ∀ r ∈ l, ∀ s ∈ l, R r s → r = s
  cov : ∀ z ∈ D, ∃ r ∈ l, R z r
theorem reps_le {R : α → α → Prop} {D l l' : List α} (hs : ∀ x ∈ D, ∀ y ∈ D, R x y → R y x) (ht : ∀ x y z, R x y → R y z → R x z) (h : Reps R D l) (h' : Reps R D l') : l.length ≤ l'.length := by
  have key : ∀ m : List α, (∀ r ∈ m, r ∈ l) → m.Nodup → ∃ k : List α, k.length = m.length ∧ k.Nodup ∧ (∀ s ∈ k, s ∈ l') ∧ ∀ s ∈ k, ∃ r ∈ m, R r s := by
    intro m
    induction m with
    | nil => exact fun _ _ => ⟨[], rfl, List.nodup_nil, by simp, by simp⟩
    | cons a m ih =>
      intro hm hn
      rw [List.nodup_cons] at hn
      obtain ⟨k, h1, h2, h3, h4⟩ := ih (fun r hr => hm r (List.mem_cons_of_mem _ hr)) hn.2
      have ha := hm a (by simp)
      obtain ⟨s, hsl, hR⟩ := h'.cov a (h.sub a ha)
      refine ⟨s :: k, by simp [h1], ?_, ?_, ?_⟩
      · rw [List.nodup_cons]
        refine ⟨fun hk => ?_, h2⟩
        obtain ⟨r, hr, hrs⟩ := h4 s hk
        have hrl := hm r (List.mem_cons_of_mem _ hr)
        have := h.ne a ha r hrl (ht _ _ _ hR (hs _ (h.sub r hrl) _ (h'.sub s hsl) hrs))
        exact hn.1 (this ▸ hr)
      · intro x hx
        rcases List.mem_cons.1 hx with rfl | hx
        · exact hsl
        · exact h3 x hx
      · intro x hx
        rcases List.mem_cons.1 hx with rfl | hx
        · exact ⟨a, by simp, hR⟩
        · obtain ⟨r, hr, hrs⟩ := h4 x hx
          exact ⟨r, List.mem_cons_of_mem _ hr, hrs⟩
  obtain ⟨k, h1, h2, h3, _⟩ := key l (fun _ h => h) h.nd
  rw [← h1]
  exact h2.length_le_of_subset h3
theorem reps_ex {R : α → α → Prop} {D : List α} (hr : ∀ x, R x x) (hs : ∀ x ∈ D, ∀ y ∈ D, R x y → R y x) : ∃ l, Reps R D l := by
  have key : ∀ m : List α, (∀ z ∈ m, z ∈ D) → ∃ l : List α, (∀ r ∈ l, r ∈ D) ∧ l.Nodup ∧ (∀ r ∈ l, ∀ s ∈ l, R r s → r = s) ∧ ∀ z ∈ m, ∃ r ∈ l, R z r := by
    intro m
    induction m with
    | nil => exact fun _ => ⟨[], by simp, List.nodup_nil, by simp, by simp⟩
    | cons a m ih =>
      intro hm
      obtain ⟨l, h1, h2, h3, h4⟩ := ih fun z hz => hm z (List.mem_cons_of_mem _ hz)
      by_cases hex : ∃ r ∈ l, R a r
      · refine ⟨l, h1, h2, h3, fun z hz => ?_⟩
        rcases List.mem_cons.1 hz with rfl | hz
        · exact hex
        · exact h4 z hz
      · have ha := hm a (by simp)
        refine ⟨a :: l, ?_, ?_, ?_, ?_⟩
        · intro r h
          rcases List.mem_cons.1 h with rfl | h
          · exact ha
          · exact h1 r h
        · rw [List.nodup_cons]
          exact ⟨fun h => hex ⟨a, h, hr a⟩, h2⟩
        · intro r h s h' hR
          rcases List.mem_cons.1 h with k1 | k1 <;> rcases List.mem_cons.1 h' with k2 | k2
          · rw [k1, k2]
          · exact absurd ⟨s, k2, k1 ▸ hR⟩ hex
          · exact absurd ⟨r, k1, hs _ (h1 r k1) _ ha (k2 ▸ hR)⟩ hex
          · exact h3 r k1 s k2 hR
        · intro z hz
          rcases List.mem_cons.1 hz with rfl | hz
          · exact ⟨z, by simp, hr z⟩
          · obtain ⟨r, h, hR⟩ := h4 z hz
            exact ⟨r, List.mem_cons_of_mem _ h, hR⟩
  obtain ⟨l, h1, h2, h3, h4⟩ := key D fun _ h => h
  exact ⟨l, h1, h2, h3, h4⟩
/-- how many rounds -/
def Cyc (D : List α) (f : α → α) (n : Nat) : Prop := ∃ l, Reps (Orb f) D l ∧ l.length = n
section
variable {D : List α} {f g : α → α}
theorem Cyc.uniq (h : PermOn D f) {m n : Nat} : Cyc D f m → Cyc D f n → m = n := fun ⟨l, hl, e⟩ ⟨k, hk, e'⟩ => by
  have h1 := reps_le (fun x hx _ _ => h.symm hx) (fun _ _ _ => Orb.trans) hl hk
  have h2 := reps_le (fun x hx _ _ => h.symm hx) (fun _ _ _ => Orb.trans) hk hl
  omega
theorem Cyc.ex (h : PermOn D f) : ∃ n, Cyc D f n := by
  obtain ⟨l, hl⟩ := reps_ex (D := D) (Orb.refl f) (fun x hx _ _ => h.symm hx)
  exact ⟨_, l, hl, rfl⟩
/-- g: f behind a swap of x and y -/
structure Swp (f g : α → α) (x y : α) : Prop where
  ne : x ≠ y
  atx : g x = f y
  aty : g y = f x
  off : ∀ z, z ≠ x → z ≠ y → g z = f z
theorem Swp.flip {x y : α} (h : Swp f g x y) : Swp g f x y := ⟨h.ne, h.aty.symm, h.atx.symm, fun z h1 h2 => (h.off z h1 h2).symm⟩
theorem Swp.turn {x y : α} (h : Swp f g x y) : Swp f g y x := ⟨h.ne.symm, h.aty, h.atx, fun z h1 h2 => h.off z h2 h1⟩
theorem Swp.perm {x y : α} (h : Swp f g x y) (hf : PermOn D f) (hx : x ∈ D) (hy : y ∈ D) : PermOn D g := by
  have key : ∀ z ∈ D, ∃ z' ∈ D, g z = f z' ∧ ((z = x ∧ z' = y) ∨ (z = y ∧ z' = x) ∨ (z ≠ x ∧ z ≠ y ∧ z' = z)) := fun z hz => by
    by_cases h1 : z = x
    · subst h1; exact ⟨y, hy, h.atx, .inl ⟨rfl, rfl⟩⟩
    · by_cases h2 : z = y
      · subst h2; exact ⟨x, hx, h.aty, .inr (.inl ⟨rfl, rfl⟩)⟩
      · exact ⟨z, hz, h.off z h1 h2, .inr (.inr ⟨h1, h2, rfl⟩)⟩
  refine ⟨fun z hz => ?_, fun z hz w hw e => ?_⟩
  · obtain ⟨z', hz', e, _⟩ := key z hz
    rw [e]; exact hf.into _ hz'
  · obtain ⟨z', hz', e1, c1⟩ := key z hz
    obtain ⟨w', hw', e2, c2⟩ := key w hw
    have e3 := hf.inj _ hz' _ hw' (by rw [← e1, ← e2]; exact e)
    have hxy := h.ne
    rcases c1 with ⟨a1, b1⟩ | ⟨a1, b1⟩ | ⟨a1, a1', b1⟩ <;> rcases c2 with ⟨a2, b2⟩ | ⟨a2, b2⟩ | ⟨a2, a2', b2⟩ <;> simp_all
/-- as long as neither x nor y is met, g goes from y as f does from x -/
theorem Swp.chain {x y : α} (h : Swp f g x y) {a : Nat} (hno : ∀ i, 0 < i → i < a → itn f i x ≠ x ∧ itn f i x ≠ y) : ∀ j, 0 < j → j ≤ a → itn g j y = itn f j x
  | 0, h0, _ => absurd h0 (by omega)
  | 1, _, _ => h.aty
  | j + 2, _, hj => by
    show g (itn g (j + 1) y) = f (itn f (j + 1) x)
    rw [h.chain hno (j + 1) (by omega) (by omega)]
    have := hno (j + 1) (by omega) (by omega)
    exact h.off _ this.1 this.2
theorem least_pos {p : Nat → Prop} {n : Nat} (h : p n) : ∃ m, p m ∧ ∀ k, k < m → ¬ p k := by
  induction n using Nat.strongRecOn with
  | _ n ih =>
    by_cases hex : ∃ k, k < n ∧ p k
    · obtain ⟨k, hk, hp⟩ := hex; exact ih k hk hp
    · exact ⟨n, h, fun k hk hp => hex ⟨k, hk, hp⟩⟩
/-- two of one round come apart -/
theorem Swp.apart {x y : α} (h : Swp f g x y) (hf : PermOn D f) (hx : x ∈ D) (hy : y ∈ D) (ho : Orb f x y) : ¬ Orb g x y := by
  intro hg
  have hgp := h.perm hf hx hy
  obtain ⟨n, hn⟩ := ho
  obtain ⟨a, ha, hmin⟩ := least_pos (p := fun n => itn f n x = y) hn
  have ha0 : 0 < a := Nat.pos_of_ne_zero fun e => by subst e; exact h.ne ha
  have hno : ∀ i, 0 < i → i < a → itn f i x ≠ x ∧ itn f i x ≠ y := fun i h0 hi => ⟨fun e => by
    refine hmin (a - i) (by omega) ?_
    have e2 := itn_add f i x (a - i)
    rw [e, show a - i + i = a by omega, ha] at e2
    exact e2.symm, hmin i hi⟩
  have hch := h.chain hno
  have hper : itn g a y = y := by rw [hch a ha0 (Nat.le_refl _), ha]
  obtain ⟨m, hm⟩ := hgp.symm hx hg
  -- y comes to x by g: some place below a
  have hall : ∀ m, ∃ j, 0 < j ∧ j ≤ a ∧ itn g m y = itn g j y := fun m => by
    induction m with
    | zero => exact ⟨a, ha0, Nat.le_refl _, hper.symm⟩
    | succ m ih =>
      obtain ⟨j, h0, hj, e⟩ := ih
      by_cases hja : j = a
      · subst hja
        refine ⟨1, by omega, by omega, ?_⟩
        show g (itn g m y) = g y
        rw [e, hper]
      · exact ⟨j + 1, by omega, by omega, by show g (itn g m y) = g (itn g j y); rw [e]⟩
  obtain ⟨j, h0, hj, e⟩ := hall m
  rw [hm, hch j h0 hj] at e
  by_cases hja : j = a
  · subst hja; rw [ha] at e; exact h.ne e
  · exact (hno j h0 (by omega)).1 e.symm
/-- two of two rounds come together -/
theorem Swp.joins {x y : α} (h : Swp f g x y) (hf : PermOn D f) (hx : x ∈ D) (hno : ¬ Orb f x y) : Orb g y x := by
  obtain ⟨n, hn0, hn⟩ := hf.round hx
  obtain ⟨p, ⟨hp0, hp⟩, hmin⟩ := least_pos (p := fun n => 0 < n ∧ itn f n x = x) ⟨hn0, hn⟩
  refine ⟨p, ?_⟩
  rw [h.chain (a := p) (fun i h0 hi => ⟨fun e => hmin i hi ⟨h0, e⟩, fun e => hno ⟨i, e⟩⟩) p hp0 (Nat.le_refl _), hp]
theorem Swp.keeps {x y : α} (h : Swp f g x y) (hf : PermOn D f) (hx : x ∈ D) (hy : y ∈ D) (hno : ¬ Orb f x y) {z w : α} (hz : z ∈ D) (ho : Orb f z w) : Orb g z w := by
  have hgp := h.perm hf hx hy
  have hyx := h.joins hf hx hno
  have hxy := hgp.symm hy hyx
  have hstep : ∀ z, z ∈ D → Orb g z (f z) := fun z _ => by
    by_cases h1 : z = x
    · subst h1; rw [← h.aty]; exact hxy.trans (Orb.step g y)
    · by_cases h2 : z = y
      · subst h2; rw [← h.atx]; exact hyx.trans (Orb.step g x)
      · rw [← h.off z h1 h2]; exact Orb.step g z
  obtain ⟨n, rfl⟩ := ho
  induction n with
  | zero => exact Orb.refl g z
  | succ n ih => exact ih.trans (hstep _ (hf.itn hz n))
theorem Swp.from {x y : α} (h : Swp f g x y) (hf : PermOn D f) (hx : x ∈ D) (hy : y ∈ D) {z w : α} (hz : z ∈ D) (ho : Orb g z w) : Orb f z w ∨ ((Orb f z x ∨ Orb f z y) ∧ (Orb f w x ∨ Orb f w y)) := by
  have hgp := h.perm hf hx hy
  obtain ⟨n, rfl⟩ := ho
  induction n with
  | zero => exact .inl (Orb.refl f z)
  | succ n ih =>
    have hm : itn g n z ∈ D := hgp.itn hz n
    show Orb f z (g (itn g n z)) ∨ ((Orb f z x ∨ Orb f z y) ∧ (Orb f (g (itn g n z)) x ∨ Orb f (g (itn g n z)) y))
    generalize itn g n z = u at *
    by_cases h1 : u = x
    · subst h1
      rw [h.atx]
      have h2 : Orb f (f y) y := hf.symm hy (Orb.step f y)
      rcases ih with h3 | ⟨h3, _⟩
      · exact .inr ⟨.inl h3, .inr h2⟩
      · exact .inr ⟨h3, .inr h2⟩
    · by_cases h2 : u = y
      · subst h2
        rw [h.aty]
        have h2 : Orb f (f x) x := hf.symm hx (Orb.step f x)
        rcases ih with h3 | ⟨h3, _⟩
        · exact .inr ⟨.inr h3, .inl h2⟩
        · exact .inr ⟨h3, .inl h2⟩
      · rw [h.off u h1 h2]
        have hb : Orb f (f u) u := hf.symm hm (Orb.step f u)
        rcases ih with h3 | ⟨h3, h4⟩
        · exact .inl (h3.trans (Orb.step f u))
        · refine .inr ⟨h3, ?_⟩
          rcases h4 with h4 | h4
          · exact .inl (hb.trans h4)
          · exact .inr (hb.trans h4)
theorem Swp.less [DecidableEq α] {x y : α} (h : Swp f g x y) (hf : PermOn D f) (hx : x ∈ D) (hy : y ∈ D) (hno : ¬ Orb f x y) {n : Nat} (hc : Cyc D f n) : ∃ m, n = m + 1 ∧ Cyc D g m := by
  obtain ⟨l, hl, rfl⟩ := hc
  obtain ⟨r1, hr1, ho1⟩ := hl.cov x hx
  obtain ⟨r2, hr2, ho2⟩ := hl.cov y hy
  have hgp := h.perm hf hx hy
  have hne : r1 ≠ r2 := fun e => hno (ho1.trans (e ▸ hf.symm hy ho2))
  have hlen := List.length_erase_of_mem hr2
  have hpos : 0 < l.length := List.length_pos_of_mem hr2
  refine ⟨(l.erase r2).length, by omega, l.erase r2, ⟨fun r hr => hl.sub r (List.mem_of_mem_erase hr), hl.nd.erase r2, fun r hr s hs ho => ?_, fun z hz => ?_⟩, rfl⟩
  · have hr' := List.mem_of_mem_erase hr
    have hs' := List.mem_of_mem_erase hs
    have hrn : r ≠ r2 := fun e => (List.Nodup.not_mem_erase hl.nd) (e ▸ hr)
    have hsn : s ≠ r2 := fun e => (List.Nodup.not_mem_erase hl.nd) (e ▸ hs)
    rcases h.from hf hx hy (hl.sub r hr') ho with h1 | ⟨h1, h2⟩
    · exact hl.ne r hr' s hs' h1
    · have k1 : r = r1 := by
        rcases h1 with h1 | h1
        · exact hl.ne r hr' r1 hr1 (h1.trans ho1)
        · exact absurd (hl.ne r hr' r2 hr2 (h1.trans ho2)) hrn
      have k2 : s = r1 := by
        rcases h2 with h2 | h2
        · exact hl.ne s hs' r1 hr1 (h2.trans ho1)
        · exact absurd (hl.ne s hs' r2 hr2 (h2.trans ho2)) hsn
      rw [k1, k2]
  · obtain ⟨r, hr, ho⟩ := hl.cov z hz
    by_cases e : r = r2
    · subst e
      refine ⟨r1, (List.mem_erase_of_ne hne).2 hr1, ?_⟩
      have h1 := h.keeps hf hx hy hno hz (ho.trans (hf.symm hy ho2))
      have h2 := h.joins hf hx hno
      have h3 := h.keeps hf hx hy hno hx ho1
      exact (h1.trans h2).trans h3
    · exact ⟨r, (List.mem_erase_of_ne e).2 hr, h.keeps hf hx hy hno hz ho⟩
theorem Swp.more [DecidableEq α] {x y : α} (h : Swp f g x y) (hf : PermOn D f) (hx : x ∈ D) (hy : y ∈ D) (ho : Orb f x y) {n : Nat} (hc : Cyc D f n) : Cyc D g (n + 1) := by
  have hgp := h.perm hf hx hy
  obtain ⟨m, hm⟩ := Cyc.ex hgp
  obtain ⟨k, rfl, hk⟩ := h.flip.less hgp hx hy (h.apart hf hx hy ho) hm
  rw [Cyc.uniq hf hc hk]
  exact hm
end
end
end Go.Proofs.YtonalhedjjobeaaDoor

namespace Go.Proofs.YtonalhedjjobeaaDoor
open Go.RowKit

/-- the sides of edges -/
def dl (es : List E) : List (Nat × Nat) := es.flatMap fun e => [(e.1.toNat, e.2.1.toNat), (e.2.1.toNat, e.1.toNat)]
theorem dl_cons (e : E) (A : List E) : dl (e :: A) = (e.1.toNat, e.2.1.toNat) :: (e.2.1.toNat, e.1.toNat) :: dl A := rfl
theorem dl_length (es : List E) : (dl es).length = 2 * es.length := by
  induction es with
  | nil => rfl
  | cons e A ih => rw [dl_cons, List.length_cons, List.length_cons, ih, List.length_cons]; omega
def sw (d : Nat × Nat) : Nat × Nat := (d.2, d.1)
theorem sw_sw (d : Nat × Nat) : sw (sw d) = d := rfl
theorem dl_sw {es : List E} {d : Nat × Nat} : d ∈ dl es → sw d ∈ dl es := by
  induction es with
  | nil => exact fun h => by simp [dl] at h
  | cons e A ih =>
    rw [dl_cons]
    intro h
    rcases List.mem_cons.1 h with rfl | h
    · simp [sw]
    · rcases List.mem_cons.1 h with rfl | h
      · simp [sw]
      · exact List.mem_cons_of_mem _ (List.mem_cons_of_mem _ (ih h))
theorem mem_dl {N : Nat} {es : List E} (hok : ∀ e ∈ es, okE N e) {d : Nat × Nat} : d ∈ dl es ↔ adj es d.1 d.2 = true := by
  induction es with
  | nil => simp [dl, adj]
  | cons e A ih =>
    have ih := ih fun x hx => hok x (List.mem_cons_of_mem _ hx)
    obtain ⟨x, y, hx, hy, _, _, _⟩ := hok e (by simp)
    rw [dl_cons, List.mem_cons, List.mem_cons, ih]
    unfold adj
    rw [List.any_cons, Bool.or_eq_true]
    unfold adjE
    rw [hx, hy]
    obtain ⟨p, q⟩ := d
    simp only [Int.toNat_natCast, Prod.mk.injEq, Bool.or_eq_true, Bool.and_eq_true, beq_iff_eq]
    constructor
    · rintro (⟨h1, h2⟩ | ⟨h1, h2⟩ | h)
      · exact .inl (.inl ⟨by omega, by omega⟩)
      · exact .inl (.inr ⟨by omega, by omega⟩)
      · exact .inr h
    · rintro ((⟨h1, h2⟩ | ⟨h1, h2⟩) | h)
      · exact .inl ⟨by omega, by omega⟩
      · exact .inr (.inl ⟨by omega, by omega⟩)
      · exact .inr (.inr h)
/-- edges that may be, each but once -/
structure Dst (N : Nat) (A : List E) : Prop where
  ok : ∀ e ∈ A, okE N e
  two : A.Pairwise fun f e => sameE e f = false
theorem Dst.tail {N : Nat} {e : E} {A : List E} (h : Dst N (e :: A)) : Dst N A := ⟨fun x hx => h.ok x (List.mem_cons_of_mem _ hx), (List.pairwise_cons.1 h.two).2⟩
theorem Dst.out {N : Nat} {e : E} {A : List E} (h : Dst N (e :: A)) : (e.1.toNat, e.2.1.toNat) ∉ dl A ∧ (e.2.1.toNat, e.1.toNat) ∉ dl A ∧ (e.1.toNat, e.2.1.toNat) ≠ (e.2.1.toNat, e.1.toNat) := by
  obtain ⟨x, y, hx, hy, _, _, hne⟩ := h.ok e (by simp)
  have h1 := (List.pairwise_cons.1 h.two).1
  have key : ∀ p q : Nat, (p = x ∧ q = y) ∨ (p = y ∧ q = x) → (p, q) ∉ dl A := fun p q hpq hm => by
    have ha := (mem_dl h.tail.ok).1 hm
    obtain ⟨f, hf, hor⟩ := mem_adj ha
    have hs := h1 f hf
    unfold sameE at hs
    rw [hx, hy] at hs
    simp only [Bool.or_eq_false_iff, Bool.and_eq_false_iff, beq_eq_false_iff_ne] at hs
    simp only at hor
    omega
  rw [hx, hy]
  simp only [Int.toNat_natCast]
  refine ⟨key _ _ (.inl ⟨rfl, rfl⟩), key _ _ (.inr ⟨rfl, rfl⟩), fun e => ?_⟩
  rw [Prod.mk.injEq] at e
  omega
theorem dl_nodup {N : Nat} : ∀ {A : List E}, Dst N A → (dl A).Nodup
  | [], _ => List.nodup_nil
  | e :: A, h => by
    obtain ⟨h1, h2, h3⟩ := h.out
    rw [dl_cons, List.nodup_cons, List.nodup_cons]
    refine ⟨fun hm => ?_, h2, dl_nodup h.tail⟩
    rcases List.mem_cons.1 hm with hm | hm
    · exact h3 hm
    · exact h1 hm
/-- who comes behind b -/
def nx (l : List Nat) (b : Nat) : Nat := l.getD ((l.idxOf b + 1) % l.length) 0
theorem idxOf_getD {l : List Nat} (hn : l.Nodup) {k : Nat} (hk : k < l.length) : l.idxOf (l.getD k 0) = k := by
  rw [List.getD, List.getElem?_eq_getElem hk, Option.getD_some]
  exact hn.idxOf_getElem k hk
theorem getD_idxOf {l : List Nat} {b : Nat} (hb : b ∈ l) : l.getD (l.idxOf b) 0 = b := by
  have := List.idxOf_lt_length_of_mem hb
  rw [List.getD, List.getElem?_eq_getElem this, Option.getD_some]
  exact List.getElem_idxOf this
theorem nx_mem {l : List Nat} {b : Nat} (hb : b ∈ l) : nx l b ∈ l := by
  have : 0 < l.length := List.length_pos_of_mem hb
  have h2 := Nat.mod_lt (l.idxOf b + 1) this
  unfold nx
  rw [List.getD, List.getElem?_eq_getElem h2]; exact List.getElem_mem _
theorem idxOf_nx {l : List Nat} (hn : l.Nodup) {b : Nat} (hb : b ∈ l) : l.idxOf (nx l b) = (l.idxOf b + 1) % l.length :=
  idxOf_getD hn (Nat.mod_lt _ (List.length_pos_of_mem hb))
theorem nx_inj {l : List Nat} (hn : l.Nodup) {b c : Nat} (hb : b ∈ l) (hc : c ∈ l) (h : nx l b = nx l c) : b = c := by
  have h1 := idxOf_nx hn hb
  have h2 := idxOf_nx hn hc
  rw [h] at h1
  have h3 := List.idxOf_lt_length_of_mem hb
  have h4 := List.idxOf_lt_length_of_mem hc
  have h5 : (l.idxOf b + 1) % l.length = (l.idxOf c + 1) % l.length := by rw [← h1, ← h2]
  have h6 : l.idxOf b = l.idxOf c := by
    by_cases e1 : l.idxOf b + 1 = l.length
    · by_cases e2 : l.idxOf c + 1 = l.length
      · omega
      · rw [e1, Nat.mod_self, Nat.mod_eq_of_lt (by omega)] at h5; omega
    · by_cases e2 : l.idxOf c + 1 = l.length
      · rw [e2, Nat.mod_self, Nat.mod_eq_of_lt (by omega)] at h5; omega
      · rw [Nat.mod_eq_of_lt (by omega), Nat.mod_eq_of_lt (by omega)] at h5; omega
  rw [← getD_idxOf hb, ← getD_idxOf hc, h6]
/-- lists round the nodes -/
structure IsMapR (N : Nat) (es : List E) (rs : List (List Nat)) : Prop where
  len : rs.length = N
  nd : ∀ a, a < N → (rs.getD a []).Nodup
  mem : ∀ a, a < N → ∀ b, b ∈ rs.getD a [] ↔ adj es a b = true
def sg (rs : List (List Nat)) (d : Nat × Nat) : Nat × Nat := (d.1, nx (rs.getD d.1 []) d.2)
/-- who comes along goes on -/
def ph (rs : List (List Nat)) (d : Nat × Nat) : Nat × Nat := sg rs (sw d)
def fl (A : List E) (d : Nat × Nat) : Nat × Nat := if d ∈ dl A then sw d else d
def sA (rs : List (List Nat)) (A : List E) (d : Nat × Nat) : Nat × Nat := sg rs (fl A d)
def isoN (rs : List (List Nat)) (N : Nat) : Nat := cntB N fun i => (rs.getD i []).isEmpty
theorem cntB_split (n : Nat) (p q : Nat → Bool) : cntB n p = cntB n (fun i => p i && q i) + cntB n (fun i => p i && !q i) := by
  induction n with
  | zero => rfl
  | succ n ih =>
    rw [cntB_succ, cntB_succ, cntB_succ, ih]
    cases p n <;> cases q n <;> simp <;> omega
theorem cntB_all (n : Nat) : cntB n (fun _ => true) = n := by unfold cntB; rw [List.filter_eq_self.2 (by simp), List.length_range]
theorem inj_le {α β : Type} {T : α → β → Prop} {l : List β} (hT : ∀ r r' s, T r s → T r' s → r = r') : ∀ {R : List α}, R.Nodup → (∀ r ∈ R, ∃ s ∈ l, T r s) → R.length ≤ l.length := by
  have key : ∀ R : List α, R.Nodup → (∀ r ∈ R, ∃ s ∈ l, T r s) → ∃ k : List β, k.length = R.length ∧ k.Nodup ∧ (∀ s ∈ k, s ∈ l) ∧ ∀ s ∈ k, ∃ r ∈ R, T r s := by
    intro R
    induction R with
    | nil => exact fun _ _ => ⟨[], rfl, List.nodup_nil, by simp, by simp⟩
    | cons a R ih =>
      intro hn h
      rw [List.nodup_cons] at hn
      obtain ⟨k, h1, h2, h3, h4⟩ := ih hn.2 fun r hr => h r (List.mem_cons_of_mem _ hr)
      obtain ⟨s, hs, hTs⟩ := h a (by simp)
      refine ⟨s :: k, by simp [h1], ?_, ?_, ?_⟩
      · rw [List.nodup_cons]
        refine ⟨fun hk => ?_, h2⟩
        obtain ⟨r, hr, hrs⟩ := h4 s hk
        exact hn.1 ((hT a r s hTs hrs) ▸ hr)
      · intro x hx
        rcases List.mem_cons.1 hx with rfl | hx
        · exact hs
        · exact h3 x hx
      · intro x hx
        rcases List.mem_cons.1 hx with rfl | hx
        · exact ⟨a, by simp, hTs⟩
        · obtain ⟨r, hr, hrs⟩ := h4 x hx
          exact ⟨r, List.mem_cons_of_mem _ hr, hrs⟩
  intro R hn h
  obtain ⟨k, h1, h2, h3, _⟩ := key R hn h
  rw [← h1]
  exact h2.length_le_of_subset h3
theorem cyc_congr {α : Type} {D : List α} {f g : α → α} (hf : PermOn D f) (h : ∀ z ∈ D, f z = g z) {n : Nat} (hc : Cyc D f n) : Cyc D g n := by
  have hi : ∀ z ∈ D, ∀ k, itn f k z = itn g k z := fun z hz k => by
    induction k with
    | zero => rfl
    | succ k ih => show f _ = g _; rw [← ih]; exact h _ (hf.itn hz k)
  obtain ⟨l, hl, e⟩ := hc
  refine ⟨l, ⟨hl.sub, hl.nd, fun r hr s hs ⟨k, ho⟩ => hl.ne r hr s hs ⟨k, (hi r (hl.sub r hr) k).trans ho⟩, fun z hz => ?_⟩, e⟩
  obtain ⟨r, hr, k, ho⟩ := hl.cov z hz
  exact ⟨r, hr, k, (hi z hz k).symm.trans ho⟩
section
variable {N : Nat} {es : List E} {rs : List (List Nat)}
theorem adj_lt (hok : ∀ e ∈ es, okE N e) {a b : Nat} (h : adj es a b = true) : a < N ∧ b < N ∧ a ≠ b := by
  obtain ⟨e, he, hor⟩ := mem_adj h
  obtain ⟨x, y, hx, hy, hxn, hyn, hne⟩ := hok e he
  omega
theorem sg_perm (hok : ∀ e ∈ es, okE N e) (hm : IsMapR N es rs) : PermOn (dl es) (sg rs) := by
  refine ⟨fun d hd => ?_, fun d hd e he h => ?_⟩
  · have ha := (mem_dl hok).1 hd
    have hl := adj_lt hok ha
    exact (mem_dl hok).2 ((hm.mem _ hl.1 _).1 (nx_mem ((hm.mem _ hl.1 _).2 ha)))
  · have ha := (mem_dl hok).1 hd
    have hb := (mem_dl hok).1 he
    have hl := adj_lt hok ha
    unfold sg at h
    rw [Prod.mk.injEq] at h
    obtain ⟨h1, h2⟩ := h
    rw [← h1] at h2
    have h3 := nx_inj (hm.nd _ hl.1) ((hm.mem _ hl.1 _).2 ha) ((hm.mem _ hl.1 _).2 (by rw [h1]; exact hb)) h2
    exact Prod.ext h1 h3
theorem sA_swp {A : List E} {e : E} (h : Dst N (e :: A)) : Swp (sA rs A) (sA rs (e :: A)) (e.1.toNat, e.2.1.toNat) (e.2.1.toNat, e.1.toNat) := by
  obtain ⟨h1, h2, h3⟩ := h.out
  refine ⟨h3, ?_, ?_, fun z hz1 hz2 => ?_⟩
  · unfold sA fl
    rw [if_pos (by rw [dl_cons]; simp), if_neg h2]; rfl
  · unfold sA fl
    rw [if_pos (by rw [dl_cons]; simp), if_neg h1]; rfl
  · unfold sA fl
    have : z ∈ dl (e :: A) ↔ z ∈ dl A := by rw [dl_cons, List.mem_cons, List.mem_cons]; exact ⟨fun h => h.resolve_left hz1 |>.resolve_left hz2, fun h => .inr (.inr h)⟩
    by_cases hz : z ∈ dl A
    · rw [if_pos (this.2 hz), if_pos hz]
    · rw [if_neg (fun h => hz (this.1 h)), if_neg hz]
theorem sA_perm (hok : ∀ e ∈ es, okE N e) (hm : IsMapR N es rs) : ∀ {A : List E}, Dst N A → (∀ e ∈ A, e ∈ es) → PermOn (dl es) (sA rs A)
  | [], _, _ => sg_perm hok hm
  | e :: A, h, hs => by
    have hx : (e.1.toNat, e.2.1.toNat) ∈ dl es := List.mem_flatMap.2 ⟨e, hs e (by simp), by simp⟩
    exact (sA_swp h).perm (sA_perm hok hm h.tail fun x hx => hs x (List.mem_cons_of_mem _ hx)) hx (dl_sw hx)
/-- all sides that leave a node come round it -/
theorem sg_round (hm : IsMapR N es rs) {a : Nat} (ha : a < N) {k : Nat} (hk : k < (rs.getD a []).length) : Orb (sg rs) (a, (rs.getD a []).getD 0 0) (a, (rs.getD a []).getD k 0) := by
  induction k with
  | zero => exact Orb.refl _ _
  | succ k ih =>
    refine (ih (by omega)).trans ⟨1, ?_⟩
    show (a, nx (rs.getD a []) ((rs.getD a []).getD k 0)) = _
    unfold nx
    rw [idxOf_getD (hm.nd a ha) (by omega), Nat.mod_eq_of_lt hk]
theorem sg_fst (rs : List (List Nat)) {z w : Nat × Nat} (h : Orb (sg rs) z w) : z.1 = w.1 := by
  obtain ⟨n, rfl⟩ := h
  induction n with
  | zero => rfl
  | succ n ih => exact ih
theorem sg_cyc (hok : ∀ e ∈ es, okE N e) (hm : IsMapR N es rs) : ∃ n, Cyc (dl es) (sg rs) n ∧ n + isoN rs N = N := by
  have hp := sg_perm hok hm
  refine ⟨_, ⟨((List.range N).filter fun i => !(rs.getD i []).isEmpty).map fun i => (i, (rs.getD i []).getD 0 0), ⟨fun r hr => ?_, ?_, fun r hr s hs ho => ?_, fun z hz => ?_⟩, rfl⟩, ?_⟩
  · obtain ⟨i, hi, rfl⟩ := List.mem_map.1 hr
    rw [List.mem_filter, List.mem_range] at hi
    have hne : 0 < (rs.getD i []).length := by
      have := hi.2
      cases h : rs.getD i [] with
      | nil => rw [h] at this; simp at this
      | cons a l => simp
    refine (mem_dl hok).2 ((hm.mem i hi.1 _).1 ?_)
    generalize rs.getD i [] = l at *
    rw [List.getD, List.getElem?_eq_getElem hne]; exact List.getElem_mem _
  · refine nodup_map_on (fun a _ b _ e => ?_) (List.nodup_range.filter _)
    rw [Prod.mk.injEq] at e; exact e.1
  · obtain ⟨i, _, rfl⟩ := List.mem_map.1 hr
    obtain ⟨j, _, rfl⟩ := List.mem_map.1 hs
    obtain rfl : i = j := sg_fst rs ho
    rfl
  · have ha := (mem_dl hok).1 hz
    have hl := adj_lt hok ha
    have hb := (hm.mem _ hl.1 _).2 ha
    have hk := List.idxOf_lt_length_of_mem hb
    have ho := sg_round hm hl.1 hk
    rw [getD_idxOf hb] at ho
    have h0 : 0 < (rs.getD z.1 []).length := by omega
    have hin : (z.1, (rs.getD z.1 []).getD 0 0) ∈ dl es := (mem_dl hok).2 ((hm.mem _ hl.1 _).1 (by
      generalize rs.getD z.1 [] = l at *
      rw [List.getD, List.getElem?_eq_getElem h0]; exact List.getElem_mem _))
    refine ⟨_, List.mem_map.2 ⟨z.1, ?_, rfl⟩, hp.symm hin ho⟩
    rw [List.mem_filter, List.mem_range]
    refine ⟨hl.1, ?_⟩
    cases h : rs.getD z.1 [] with
    | nil => rw [h] at h0; simp at h0
    | cons a l => rfl
  · rw [List.length_map]
    have h1 := cntB_split N (fun _ => true) (fun i => (rs.getD i []).isEmpty)
    rw [cntB_all] at h1
    simp only [Bool.true_and] at h1
    unfold isoN
    unfold cntB at *
    omega
theorem rts_cons_same {e : E} {A : List E} (h : linkd A e) : rts N (e :: A) = rts N A := by
  unfold rts
  congr 1
  funext i
  rw [lab_cons]
  unfold linkd at h
  rw [h, Nat.max_self, Nat.min_self]
  split
  · rename_i e; rw [e]
  · rfl
structure MInv (N : Nat) (es : List E) (rs : List (List Nat)) (A : List E) (n : Nat) : Prop where
  cyc : Cyc (dl es) (sA rs A) n
  le : n + isoN rs N + N ≤ 2 * rts N A + A.length
  even : (n + isoN rs N + N + A.length) % 2 = 0
  lab : ∀ z ∈ dl es, ∀ w, Orb (sA rs A) z w → lab A z.1 = lab A w.1
theorem mInv (hok : ∀ e ∈ es, okE N e) (hm : IsMapR N es rs) : ∀ {A : List E}, Dst N A → (∀ e ∈ A, e ∈ es) → ∃ n, MInv N es rs A n
  | [], _, _ => by
    obtain ⟨n, hn, he⟩ := sg_cyc hok hm
    refine ⟨n, hn, ?_, ?_, fun z _ w ho => ?_⟩
    · rw [rts_nil]; simp only [List.length_nil]; omega
    · simp only [List.length_nil]; omega
    · exact sg_fst rs ho
  | e :: A, h, hs => by
    have hs' : ∀ x ∈ A, x ∈ es := fun x hx => hs x (List.mem_cons_of_mem _ hx)
    obtain ⟨n, ih⟩ := mInv hok hm h.tail hs'
    have hsw := sA_swp (rs := rs) h
    have hf := sA_perm hok hm h.tail hs'
    have hx : (e.1.toNat, e.2.1.toNat) ∈ dl es := List.mem_flatMap.2 ⟨e, hs e (by simp), by simp⟩
    have hy := dl_sw hx
    unfold sw at hy
    have hg := hsw.perm hf hx hy
    have hsub : ∀ {i j : Nat}, Go.Proofs.YtonalhedjjobeaaDoor.lab A i = Go.Proofs.YtonalhedjjobeaaDoor.lab A j → Go.Proofs.YtonalhedjjobeaaDoor.lab (e :: A) i = Go.Proofs.YtonalhedjjobeaaDoor.lab (e :: A) j := fun hij => lab_sub (fun x hx => linkd_mono (linkd_mem hx)) hij
    have hlink : Go.Proofs.YtonalhedjjobeaaDoor.lab (e :: A) e.1.toNat = Go.Proofs.YtonalhedjjobeaaDoor.lab (e :: A) e.2.1.toNat := lab_edge _ e (by simp)
    by_cases ho : Orb (sA rs A) (e.1.toNat, e.2.1.toNat) (e.2.1.toNat, e.1.toNat)
    · have hl : linkd A e := ih.lab _ hx _ ho
      refine ⟨n + 1, hsw.more hf hx hy ho ih.cyc, ?_, ?_, fun z hz w hw => ?_⟩
      · have := ih.le
        rw [rts_cons_same hl, List.length_cons]; omega
      · have := ih.even
        rw [List.length_cons]; omega
      · exact hsub (ih.lab z hz w (hsw.flip.keeps hg hx hy (hsw.apart hf hx hy ho) hz hw))
    · obtain ⟨m, rfl, hc⟩ := hsw.less hf hx hy ho ih.cyc
      refine ⟨m, hc, ?_, ?_, fun z hz w hw => ?_⟩
      · have := ih.le
        have := rts_cons_ge N e A
        rw [List.length_cons]; omega
      · have := ih.even
        rw [List.length_cons]; omega
      · have hwd := hg.orb hz hw
        rcases hsw.from hf hx hy hz hw with h1 | ⟨h1, h2⟩
        · exact hsub (ih.lab z hz w h1)
        · have k1 : Go.Proofs.YtonalhedjjobeaaDoor.lab (e :: A) z.1 = Go.Proofs.YtonalhedjjobeaaDoor.lab (e :: A) e.1.toNat := by
            rcases h1 with h1 | h1
            · exact hsub (ih.lab z hz _ h1)
            · exact (hsub (ih.lab z hz _ h1)).trans hlink.symm
          have k2 : Go.Proofs.YtonalhedjjobeaaDoor.lab (e :: A) w.1 = Go.Proofs.YtonalhedjjobeaaDoor.lab (e :: A) e.1.toNat := by
            rcases h2 with h2 | h2
            · exact hsub (ih.lab w hwd _ h2)
            · exact (hsub (ih.lab w hwd _ h2)).trans hlink.symm
          rw [k1, k2]
theorem ph_perm (hok : ∀ e ∈ es, okE N e) (hm : IsMapR N es rs) : PermOn (dl es) (ph rs) := by
  have h := sg_perm hok hm
  refine ⟨fun d hd => h.into _ (dl_sw hd), fun d hd e he heq => ?_⟩
  have := h.inj _ (dl_sw hd) _ (dl_sw he) heq
  rw [← sw_sw d, this, sw_sw]
/-- EULER, POINCARE -/
theorem euler (hd : Dst N es) (hm : IsMapR N es rs) {n : Nat} (hc : Cyc (dl es) (ph rs) n) : n + isoN rs N + N ≤ 2 * rts N es + es.length ∧ (n + isoN rs N + N + es.length) % 2 = 0 ∧ rts N es ≤ n + isoN rs N := by
  have hok := hd.ok
  obtain ⟨m, h⟩ := mInv hok hm hd fun _ h => h
  have hAp := sA_perm hok hm hd fun _ h => h
  have hcongr : ∀ z ∈ dl es, sA rs es z = ph rs z := fun z hz => by unfold sA ph fl; rw [if_pos hz]
  have hcm := cyc_congr hAp hcongr h.cyc
  obtain rfl := Cyc.uniq (ph_perm hok hm) hcm hc
  refine ⟨h.le, h.even, ?_⟩
  obtain ⟨l, hl, hlen⟩ := h.cyc
  have h1 := cntB_split N (fun i => Go.Proofs.YtonalhedjjobeaaDoor.lab es i == i) (fun i => (rs.getD i []).isEmpty)
  have h2 : cntB N (fun i => Go.Proofs.YtonalhedjjobeaaDoor.lab es i == i && (rs.getD i []).isEmpty) ≤ isoN rs N := cntB_le fun i _ hi => (Bool.and_eq_true _ _ ▸ hi).2
  have h3 : cntB N (fun i => Go.Proofs.YtonalhedjjobeaaDoor.lab es i == i && !(rs.getD i []).isEmpty) ≤ l.length := by
    unfold cntB
    refine inj_le (T := fun (i : Nat) (s : Nat × Nat) => Go.Proofs.YtonalhedjjobeaaDoor.lab es s.1 = i) (fun r r' s h h' => h.symm.trans h') (List.nodup_range.filter _) fun i hi => ?_
    rw [List.mem_filter, List.mem_range, Bool.and_eq_true, beq_iff_eq] at hi
    obtain ⟨hiN, hlab, hne⟩ := hi
    have h0 : 0 < (rs.getD i []).length := by
      cases h : rs.getD i [] with
      | nil => rw [h] at hne; simp at hne
      | cons a l => simp
    have hin : (i, (rs.getD i []).getD 0 0) ∈ dl es := (mem_dl hok).2 ((hm.mem _ hiN _).1 (by
      generalize rs.getD i [] = l at *
      rw [List.getD, List.getElem?_eq_getElem h0]; exact List.getElem_mem _))
    obtain ⟨r, hr, ho⟩ := hl.cov _ hin
    refine ⟨r, hr, ?_⟩
    rw [← h.lab _ hin _ ho]; exact hlab
  unfold rts
  omega
end
end Go.Proofs.YtonalhedjjobeaaDoor

namespace Go.Proofs.YtonalhedjjobeaaDoor
open Go.RowKit

section
variable {α : Type}
/-- whole rounds have been seen: sl; one of each: reps -/
structure FI (D : List α) (f : α → α) (sl reps : List α) : Prop where
  nd : sl.Nodup
  sub : ∀ z ∈ sl, z ∈ D
  rin : ∀ r ∈ reps, r ∈ D
  rnd : reps.Nodup
  ne : ∀ r ∈ reps, ∀ s ∈ reps, Orb f r s → r = s
  cl : ∀ z ∈ D, z ∈ sl ↔ ∃ r ∈ reps, Orb f z r
theorem FI.start (D : List α) (f : α → α) : FI D f [] [] := ⟨List.nodup_nil, by simp, by simp, List.nodup_nil, by simp, fun z _ => by simp⟩
/-- in the middle of one -/
structure FJ (D : List α) (f : α → α) (sl : List α) (d : α) (j : Nat) (cur : List α) : Prop where
  eq : cur = sl ++ (List.range j).map fun t => itn f t d
  nd : cur.Nodup
variable {D : List α} {f : α → α} {sl reps cur : List α} {d : α} {j : Nat}
theorem FI.len (h : FI D f sl reps) : sl.length ≤ D.length := h.nd.length_le_of_subset fun z hz => h.sub z hz
theorem FI.rlen (h : FI D f sl reps) : reps.length ≤ D.length := h.rnd.length_le_of_subset fun z hz => h.rin z hz
theorem FI.fj (h : FI D f sl reps) : FJ D f sl d 0 sl := ⟨by simp, h.nd⟩
theorem FJ.sub (h : FJ D f sl d j cur) (hf : PermOn D f) (hs : ∀ z ∈ sl, z ∈ D) (hd : d ∈ D) : ∀ z ∈ cur, z ∈ D := fun z hz => by
  rw [h.eq] at hz
  rcases List.mem_append.1 hz with hz | hz
  · exact hs z hz
  · obtain ⟨t, _, rfl⟩ := List.mem_map.1 hz
    exact hf.itn hd t
theorem FJ.len (h : FJ D f sl d j cur) (hf : PermOn D f) (hs : ∀ z ∈ sl, z ∈ D) (hd : d ∈ D) : cur.length ≤ D.length := h.nd.length_le_of_subset fun z hz => h.sub hf hs hd z hz
theorem FJ.step (h : FJ D f sl d j cur) (hno : itn f j d ∉ cur) : FJ D f sl d (j + 1) (cur ++ [itn f j d]) := by
  refine ⟨by rw [h.eq, List.range_succ, List.map_append, List.append_assoc]; rfl, ?_⟩
  rw [List.nodup_append]
  refine ⟨h.nd, by simp, fun a ha b hb e => ?_⟩
  simp at hb
  subst hb
  exact hno (e ▸ ha)
theorem FJ.done (h : FJ D f sl d j cur) (hI : FI D f sl reps) (hf : PermOn D f) (hd : d ∈ D) (hds : d ∉ sl) (hin : itn f j d ∈ cur) : FI D f cur (reps ++ [d]) := by
  have hrs : ∀ r ∈ reps, r ∈ sl := fun r hr => (hI.cl r (hI.rin r hr)).2 ⟨r, hr, Orb.refl f r⟩
  have hno : ¬ ∃ r ∈ reps, Orb f d r := fun h => hds ((hI.cl d hd).2 h)
  have hloop : ∃ t, t < j ∧ itn f j d = itn f t d := by
    rw [h.eq] at hin
    rcases List.mem_append.1 hin with hm | hm
    · obtain ⟨r, hr, ho⟩ := (hI.cl _ (hf.itn hd j)).1 hm
      exact absurd ⟨r, hr, (show Orb f d (itn f j d) from ⟨j, rfl⟩).trans ho⟩ hno
    · obtain ⟨t, ht, e⟩ := List.mem_map.1 hm
      exact ⟨t, List.mem_range.1 ht, e.symm⟩
  have hall : ∀ m, ∃ t, t < j ∧ itn f m d = itn f t d := fun m => by
    induction m with
    | zero => obtain ⟨t, ht, _⟩ := hloop; exact ⟨0, by omega, rfl⟩
    | succ m ih =>
      obtain ⟨t, ht, e⟩ := ih
      by_cases htj : t + 1 = j
      · obtain ⟨u, hu, e2⟩ := hloop
        refine ⟨u, hu, ?_⟩
        rw [← e2, ← htj]
        show f (itn f m d) = f (itn f t d)
        rw [e]
      · exact ⟨t + 1, by omega, by show f (itn f m d) = f (itn f t d); rw [e]⟩
  refine ⟨h.nd, h.sub hf hI.sub hd, fun r hr => ?_, ?_, fun r hr s hs ho => ?_, fun z hz => ?_⟩
  · rcases List.mem_append.1 hr with hr | hr
    · exact hI.rin r hr
    · simp at hr; rw [hr]; exact hd
  · rw [List.nodup_append]
    refine ⟨hI.rnd, by simp, fun a ha b hb e => ?_⟩
    simp at hb
    subst hb
    exact hds (e ▸ hrs a ha)
  · rcases List.mem_append.1 hr with k1 | k1 <;> rcases List.mem_append.1 hs with k2 | k2
    · exact hI.ne r k1 s k2 ho
    · simp at k2
      exact absurd ⟨r, k1, k2 ▸ hf.symm (hI.rin r k1) ho⟩ hno
    · simp at k1
      exact absurd ⟨s, k2, k1 ▸ ho⟩ hno
    · simp at k1 k2; rw [k1, k2]
  · rw [h.eq]
    constructor
    · intro hm
      rcases List.mem_append.1 hm with hm | hm
      · obtain ⟨r, hr, ho⟩ := (hI.cl z hz).1 hm
        exact ⟨r, List.mem_append_left _ hr, ho⟩
      · obtain ⟨t, _, rfl⟩ := List.mem_map.1 hm
        exact ⟨d, by simp, hf.symm hd ⟨t, rfl⟩⟩
    · rintro ⟨r, hr, ho⟩
      rcases List.mem_append.1 hr with hr | hr
      · exact List.mem_append_left _ ((hI.cl z hz).2 ⟨r, hr, ho⟩)
      · simp at hr; subst hr
        obtain ⟨m, hm⟩ := hf.symm hz ho
        obtain ⟨t, ht, e⟩ := hall m
        exact List.mem_append_right _ (List.mem_map.2 ⟨t, List.mem_range.2 ht, by rw [← e, hm]⟩)
theorem FI.cyc (h : FI D f sl reps) (hall : ∀ z ∈ D, z ∈ sl) : Cyc D f reps.length :=
  ⟨reps, ⟨h.rin, h.rnd, h.ne, fun z hz => (h.cl z hz).1 (hall z hz)⟩, rfl⟩
end
def cI (d : Nat × Nat) : Int × Int := ((d.1 : Int), (d.2 : Int))
theorem cI_inj {a b : Nat × Nat} (h : cI a = cI b) : a = b := by
  unfold cI at h
  rw [Prod.mk.injEq] at h
  exact Prod.ext (by omega) (by omega)
theorem cI_mem {d : Nat × Nat} {l : List (Nat × Nat)} : cI d ∈ l.map cI ↔ d ∈ l := by
  rw [List.mem_map]
  exact ⟨fun ⟨a, ha, e⟩ => cI_inj e ▸ ha, fun h => ⟨d, h, rfl⟩⟩
end Go.Proofs.YtonalhedjjobeaaDoor

namespace Go.Proofs.YtonalhedjjobeaaDoor
open Go.RowKit Go.Shelf
attribute [local go_sem] Oper.semAt_some

theorem getD_idx_ne {l : List Nat} {a m : Nat} (h : m < l.idxOf a) : l.getD m 0 ≠ a := by
  have hl : m < l.length := Nat.lt_of_lt_of_le h List.idxOf_le_length
  intro e
  rw [List.getD, List.getElem?_eq_getElem hl, Option.getD_some] at e
  have := List.not_of_lt_findIdx (p := (· == a)) (xs := l) (i := m) h
  simp [e] at this
set_option maxHeartbeats 1600000 in
set_option maxRecDepth 100000 in
set_option linter.unusedSimpArgs false in
theorem next_any (R : Option Addr) (n c : Nat) (l : List Rw) (w : World) (hR : RdR w R n l) (nb : List Nat) (a b : Nat) (hb : b < n) (hrow : (rat l b).zs = natI nb) (ha : a ∈ nb) (hnb : nb.length ≤ 10) :
    Calls Tryd.prog 35 #[.slice R n c, .agg #[.int .i64 (a : Int), .int .i64 (b : Int)]] w fun e w' => e = .returned (.agg #[.int .i64 (b : Int), .int .i64 (nx nb a : Int)]) ∧ Below w.heap.size w w' := by
  obtain ⟨bR, oR, rfl, hbR, hcR, hfit⟩ := hR.at hb
  obtain ⟨hrd, _, _⟩ := hfit
  rw [hrow] at hrd
  generalize (rat l b).A = rA at *
  generalize (rat l b).cap = rc at *
  have hlen : nb.length = (rat l b).len := by simpa [ints, natI] using hrd.1
  generalize (rat l b).len = rl at *
  have hix : nb.idxOf a < rl := by rw [← hlen]; exact List.idxOf_lt_length_of_mem ha
  have hj : (nb.idxOf a + 1) % rl < rl := Nat.mod_lt _ (by omega)
  have hnx : nx nb a = nb.getD ((nb.idxOf a + 1) % rl) 0 := by unfold nx; rw [hlen]
  have hia : (natI nb).getD (nb.idxOf a) 0 = (a : Int) := by rw [natI_at (by omega), getD_idxOf ha]
  have hib : ∀ m, m < nb.idxOf a → (natI nb).getD m 0 ≠ (a : Int) := fun m hm => by
    rw [natI_at (by omega)]
    have := getD_idx_ne hm
    omega
  have HI := Lib.hid (fun W (h : Below w.heap.size w W) => index_at rA rl rc (natI nb) a W (hrd.later h) (by omega) (nb.idxOf a) hix hia hib)
  obtain ⟨bb, oo, rfl, hbb, hcj⟩ := hrd.int hj
  rw [natI_at (by omega), ← hnx] at hcj
  rw [hnx] at hcj ⊢
  have hmod : ((nb.idxOf a : Int) + 1) % (rl : Int) = (((nb.idxOf a + 1) % rl : Nat) : Int) := by push_cast; rfl
  have htm : Int.tmod ((nb.idxOf a : Int) + 1) (rl : Int) = (((nb.idxOf a + 1) % rl : Nat) : Int) := by
    rw [Int.tmod_eq_emod_of_nonneg (by omega)]; exact hmod
  generalize nb.getD ((nb.idxOf a + 1) % rl) 0 = y at *
  generalize (nb.idxOf a + 1) % rl = j at *
  generalize nb.idxOf a = i at *
  have hB0 : Below w.heap.size w ((w.alloc (.cells #[.int .i64 (a : Int), .int .i64 (b : Int)] 62)).alloc (.cells #[.int .i64 0, .int .i64 0] 62)) := ((Below.refl _ w).alloc (Nat.le_refl _) _).alloc (by simp) _
  have hK1 := (Blk.new w 62 #[.int .i64 (a : Int), .int .i64 (b : Int)]).alloc (.cells #[.int .i64 0, .int .i64 0] 62)
  have hK2 := Blk.new (w.alloc (.cells #[.int .i64 (a : Int), .int .i64 (b : Int)] 62)) 62 #[.int .i64 0, .int .i64 0]
  have hS : ((w.alloc (.cells #[.int .i64 (a : Int), .int .i64 (b : Int)] 62)).alloc (.cells #[.int .i64 0, .int .i64 0] 62)).heap.size = w.heap.size + 2 := by simp
  simp only [World.size_alloc] at hK2
  have hrl9 : (rl : Int) ≤ 10 := by omega
  have hrl0 : (0 : Int) < rl := by omega
  have hij : (i : Int) < 10 := by omega
  have hj0 : (0 : Int) ≤ j := by omega
  have hjr : (j : Int) < rl := by omega
  have hb0 : (0 : Int) ≤ b := by omega
  have hbn : (b : Int) < n := by omega
  have hrz : ¬ rl = 0 := by omega
  have hwi : IntKind.i64.wrap ((i : Int) + 1) = (i : Int) + 1 := IntWalk.i64_in _ (by omega)
  clear hrow ha hnb hlen hix hnx hia hib hrd hmod hR
  go_enter Tryd.func35, Tryd.ntmps35
  go_upto_region 1 with fail
  generalize ((w.alloc (.cells #[.int .i64 (a : Int), .int .i64 (b : Int)] 62)).alloc (.cells #[.int .i64 0, .int .i64 0] 62)) = w1 at *
  have c10 := hK1.cell (j := 0) (v := .int .i64 (a : Int)) rfl
  have c11 := hK1.cell (j := 1) (v := .int .i64 (b : Int)) rfl
  have hcR1 := below_cell hB0 hbR hcR
  have hcj1 := below_cell hB0 hbb hcj
  have c20 := hK2.cell (j := 0) (v := .int .i64 0) rfl
  have c21 := hK2.cell (j := 1) (v := .int .i64 0) rfl
  have f20 := hK2.frozen 0
  have f21 := hK2.frozen 1
  have hl2 := hK2.lt
  have HI1 := Lib.hid (HI.out w1.drew hB0.drew)
  have hB0H := Lib.hid hB0
  clear hcR hcj HI hK1 hK2 hB0
  go_upto_region 2 with fail
  clear hcR1
  refine region_last (fun w' => w'.cell? ⟨w.heap.size, 0, none⟩ = some (.int .i64 (a : Int)) ∧ w'.cell? ⟨w.heap.size, 1, none⟩ = some (.int .i64 (b : Int)) ∧ w'.cell? ⟨bb, oo + j, none⟩ = some (.int .i64 (y : Int))) (by kernel_rfl) rfl (by kernel_rfl) ⟨c10, c11, hcj1⟩ (fun hHeld => ?_)
  dsimp only [List.dropLast]
  (refine wpAnyH_take (i := 0) (v := ?_) rfl (by kernel_rfl) (by kernel_rfl) (by kernel_rfl) (fun _ _ _ h => h) (Or.inl ⟨by rfl, ?_⟩) hHeld ?_; rotate_left; first | (intro w' hSw; go_simp; done) | (intro w' hSw; go_simp; with_reducible rfl))
  simp only [Act.put, List.getElem_toArray, List.getElem_cons_zero, List.getElem_cons_succ, List.setIfInBounds_toArray, List.set_cons_zero, List.set_cons_succ]
  (refine wpAnyH_take (i := 1) (v := ?_) rfl (by kernel_rfl) (by kernel_rfl) (by kernel_rfl) (fun _ _ _ h => h) (Or.inl ⟨by rfl, ?_⟩) hHeld ?_; rotate_left; first | (intro w' hSw; (have hq := hSw.2.1); go_simp; done) | (intro w' hSw; (have hq := hSw.2.1); go_simp; with_reducible rfl))
  simp only [Act.put, List.getElem_toArray, List.getElem_cons_zero, List.getElem_cons_succ, List.setIfInBounds_toArray, List.set_cons_zero, List.set_cons_succ]
  (refine wpAnyH_take (i := 2) (v := ?_) rfl (by kernel_rfl) (by kernel_rfl) (by kernel_rfl) (fun _ _ _ h => h) (Or.inl ⟨by rfl, ?_⟩) hHeld ?_; rotate_left; first | (intro w' hSw; go_simp; done) | (intro w' hSw; go_simp; with_reducible rfl))
  simp only [Act.put, List.getElem_toArray, List.getElem_cons_zero, List.getElem_cons_succ, List.setIfInBounds_toArray, List.set_cons_zero, List.set_cons_succ]
  (refine wpAnyH_take (i := 3) (v := ?_) rfl (by kernel_rfl) (by kernel_rfl) (by kernel_rfl) (fun _ _ _ h => h) (Or.inl ⟨by rfl, ?_⟩) hHeld ?_; rotate_left; first | (intro w' hSw; go_simp; done) | (intro w' hSw; go_simp; with_reducible rfl))
  simp only [Act.put, List.getElem_toArray, List.getElem_cons_zero, List.getElem_cons_succ, List.setIfInBounds_toArray, List.set_cons_zero, List.set_cons_succ]
  (refine wpAnyH_take (i := 4) (v := ?_) rfl (by kernel_rfl) (by kernel_rfl) (by kernel_rfl) (fun _ _ _ h => h) (Or.inl ⟨by rfl, ?_⟩) hHeld ?_; rotate_left; first | (intro w' hSw; go_simp; done) | (intro w' hSw; go_simp; with_reducible rfl))
  simp only [Act.put, List.getElem_toArray, List.getElem_cons_zero, List.getElem_cons_succ, List.setIfInBounds_toArray, List.set_cons_zero, List.set_cons_succ]
  (refine wpAnyH_take (i := 5) (v := ?_) rfl (by kernel_rfl) (by kernel_rfl) (by kernel_rfl) (fun _ _ _ h => h) (Or.inl ⟨by rfl, ?_⟩) hHeld ?_; rotate_left; first | (intro w' hSw; (have hq := hSw.1); go_simp; done) | (intro w' hSw; (have hq := hSw.1); go_simp; with_reducible rfl))
  simp only [Act.put, List.getElem_toArray, List.getElem_cons_zero, List.getElem_cons_succ, List.setIfInBounds_toArray, List.set_cons_zero, List.set_cons_succ]
  (refine wpAnyH_take (i := 8) (v := ?_) rfl (by kernel_rfl) (by kernel_rfl) (by kernel_rfl) (fun _ _ _ h => h) (Or.inl ⟨by rfl, ?_⟩) hHeld ?_; rotate_left; first | (intro w' hSw; go_simp; done) | (intro w' hSw; go_simp; with_reducible rfl))
  simp only [Act.put, List.getElem_toArray, List.getElem_cons_zero, List.getElem_cons_succ, List.setIfInBounds_toArray, List.set_cons_zero, List.set_cons_succ]
  (refine wpAnyH_take (i := 9) (v := ?_) rfl (by kernel_rfl) (by kernel_rfl) (by kernel_rfl) (fun _ _ _ h => h) (Or.inl ⟨by rfl, ?_⟩) hHeld ?_; rotate_left; first | (intro w' hSw; go_simp; done) | (intro w' hSw; go_simp; with_reducible rfl))
  simp only [Act.put, List.getElem_toArray, List.getElem_cons_zero, List.getElem_cons_succ, List.setIfInBounds_toArray, List.set_cons_zero, List.set_cons_succ]
  refine wpAnyH_ready (rs := [6]) (by kernel_rfl) (by simp) ?_
  refine AllReadyH.cons rfl (fun K hK => ?_) AllReadyH.nil
  go_simp
  refine HI1.out.mono ?_
  rintro e w5 ⟨rfl, rfl⟩
  refine hK.out _ _ ⟨c10, c11, hcj1⟩ (fun hHeld => ?_)
  clear hK K HI1
  (try simp only [Act.put, List.getElem_toArray, List.getElem_cons_zero, List.getElem_cons_succ, List.setIfInBounds_toArray, List.set_cons_zero, List.set_cons_succ])
  (refine wpAnyH_take (i := 7) (v := ?_) rfl (by kernel_rfl) (by kernel_rfl) (by kernel_rfl) (fun _ _ _ h => h) (Or.inl ⟨by rfl, ?_⟩) hHeld ?_; rotate_left; first | (intro w' hSw; go_simp; done) | (intro w' hSw; go_simp; with_reducible rfl))
  simp only [Act.put, List.getElem_toArray, List.getElem_cons_zero, List.getElem_cons_succ, List.setIfInBounds_toArray, List.set_cons_zero, List.set_cons_succ]
  (refine wpAnyH_take (i := 10) (v := ?_) rfl (by kernel_rfl) (by kernel_rfl) (by kernel_rfl) (fun _ _ _ h => h) (Or.inl ⟨by rfl, ?_⟩) hHeld ?_; rotate_left; first | (intro w' hSw; go_simp; done) | (intro w' hSw; go_simp; with_reducible rfl))
  simp only [Act.put, List.getElem_toArray, List.getElem_cons_zero, List.getElem_cons_succ, List.setIfInBounds_toArray, List.set_cons_zero, List.set_cons_succ]
  (refine wpAnyH_take (i := 11) (v := ?_) rfl (by kernel_rfl) (by kernel_rfl) (by kernel_rfl) (fun _ _ _ h => h) (Or.inl ⟨by rfl, ?_⟩) hHeld ?_; rotate_left; first | (intro w' hSw; go_simp; done) | (intro w' hSw; go_simp; with_reducible rfl))
  simp only [Act.put, List.getElem_toArray, List.getElem_cons_zero, List.getElem_cons_succ, List.setIfInBounds_toArray, List.set_cons_zero, List.set_cons_succ]
  (refine wpAnyH_take (i := 12) (v := ?_) rfl (by kernel_rfl) (by kernel_rfl) (by kernel_rfl) (fun _ _ _ h => h) (Or.inl ⟨by rfl, ?_⟩) hHeld ?_; rotate_left; first | (intro w' hSw; (have hq := hSw.2.2); go_simp; done) | (intro w' hSw; (have hq := hSw.2.2); go_simp; with_reducible rfl))
  simp only [Act.put, List.getElem_toArray, List.getElem_cons_zero, List.getElem_cons_succ, List.setIfInBounds_toArray, List.set_cons_zero, List.set_cons_succ]
  (refine wpAnyH_take (i := 13) (v := ?_) rfl (by kernel_rfl) (by kernel_rfl) (by kernel_rfl) (fun _ _ _ h => h) (Or.inl ⟨by rfl, ?_⟩) hHeld ?_; rotate_left; first | (intro w' hSw; go_simp; done) | (intro w' hSw; go_simp; with_reducible rfl))
  simp only [Act.put, List.getElem_toArray, List.getElem_cons_zero, List.getElem_cons_succ, List.setIfInBounds_toArray, List.set_cons_zero, List.set_cons_succ]
  refine wpAnyH_done (by kernel_rfl) ?_ _
  clear hHeld
  show Oper.wp _ _ _ _ _ _
  have d20 : w1.drew.cell? ⟨w.heap.size + 1, 0, none⟩ = some (.int .i64 0) := c20
  have d21 : w1.drew.cell? ⟨w.heap.size + 1, 1, none⟩ = some (.int .i64 0) := c21
  have hBd := Lib.hid hB0H.out.drew
  have g20 : w1.drew.frozen? ⟨w.heap.size + 1, 0, none⟩ = false := f20
  have g21 : w1.drew.frozen? ⟨w.heap.size + 1, 1, none⟩ = false := f21
  have hl3 : w.heap.size + 1 < w1.drew.heap.size := hl2
  clear c10 c11 hcj1 c20 c21 f20 f21 hl2 hB0H
  generalize w1.drew = w2 at *
  go_simp
  go_wp2
  have e0 : ((w2.setCell ⟨w.heap.size + 1, 0, none⟩ (.int .i64 (b : Int))).setCell ⟨w.heap.size + 1, 1, none⟩ (.int .i64 (y : Int))).cell? ⟨w.heap.size + 1, 0, none⟩ = some (.int .i64 (b : Int)) := (World.cell?_setCell_other _ _ _ _ (by intro e; injection e with _ e; omega)).trans (World.cell?_setCell_same _ _ _ d20)
  have e1 : ((w2.setCell ⟨w.heap.size + 1, 0, none⟩ (.int .i64 (b : Int))).setCell ⟨w.heap.size + 1, 1, none⟩ (.int .i64 (y : Int))).cell? ⟨w.heap.size + 1, 1, none⟩ = some (.int .i64 (y : Int)) := World.cell?_setCell_same _ _ _ ((World.cell?_setCell_other _ _ _ _ (by intro e; injection e with _ e; omega)).trans d21)
  refine bodyPost_ret (v := .agg #[.int .i64 (b : Int), .int .i64 (y : Int)]) (by simp [results, Tryd.results35, go_sem, e0, e1]) rfl ?_
  exact ⟨rfl, (hBd.out.setCell (by simp) _).setCell (by simp) _⟩
end Go.Proofs.YtonalhedjjobeaaDoor

namespace Go.Proofs.YtonalhedjjobeaaDoor
open Go.RowKit Go.Instr

def tk (c : Int × Int) : Value := .agg #[.int .i64 c.1, .int .i64 c.2]
theorem tk_check (em : Bool) (c : Int × Int) (W : World) : (Instr.checkKey em 10000 62 (tk c)).run Tryd.prog W = .ok () W := by
  unfold tk
  kernel_rfl
theorem tk_eq (c d : Int × Int) (W : World) : (Op.equal 62 (tk c) (tk d)).run Tryd.prog W = .ok (c.1 == d.1 && c.2 == d.2) W := by
  have hS : Tryd.prog.underlying 62 = some (.struct (Tryd.prog.fieldsOf 62)) := by kernel_rfl
  have hp : Tryd.prog.stoodInHeld 62 = false := by kernel_rfl
  unfold tk Op.equal Op.maxDepth
  rw [show (10000 : Nat) = 9999 + 1 from rfl, run_equalIn_agg W 9999 62 _ _ hS hp]
  simp only [Program.fieldsOf, Tryd.underlying62]
  cases h1 : (c.1 == d.1)
  · go_simp
  · go_simp
    by_cases h2 : c.2 = d.2 <;> simp [h2]
/-- an entry: a pair, a count, a stamp -/
def tme (c : Int × Int) (n : Int) (j : Nat) : MapEntry := { key := tk c, val := .int .i64 n, born := j }
/-- the entries of pairs of which each was met once, in order -/
def tm (l : List (Int × Int)) : List MapEntry := l.mapIdx fun j c => tme c 1 j
theorem tm_snoc (l : List (Int × Int)) (c : Int × Int) : tm (l ++ [c]) = tm l ++ [tme c 1 l.length] := by simp [tm, List.mapIdx_append]
theorem tm_length (l : List (Int × Int)) : (tm l).length = l.length := by simp [tm]

theorem askingT_none (c : Int × Int) (W : World) : ∀ (es : List MapEntry) (i : Nat), (∀ e ∈ es, ∃ d, e.key = tk d ∧ (c.1 == d.1 && c.2 == d.2) = false) → (findAsking 62 (tk c) es i).run Tryd.prog W = .ok none W
  | [], i, _ => by simp [findAsking]
  | e :: es, i, h => by
    obtain ⟨d, hd, hne⟩ := h e (by simp)
    simp only [findAsking, hd, Sem.run_bind, tk_eq, Result.andThen_ok, hne, Bool.false_eq_true, if_false]
    exact askingT_none c W es (i + 1) fun e' h' => h e' (List.mem_cons_of_mem _ h')
theorem askingT_some (c : Int × Int) (W : World) (v : Value) : ∀ (es : List MapEntry) (i : Nat), (∀ e ∈ es, ∃ d, e.key = tk d ∧ ((c.1 == d.1 && c.2 == d.2) = true → e.val = v)) → (∃ e ∈ es, e.key = tk c) → ∃ j, (findAsking 62 (tk c) es i).run Tryd.prog W = .ok (some (j, v)) W
  | [], i, _, h => by obtain ⟨e, he, _⟩ := h; cases he
  | e :: es, i, h, h' => by
    obtain ⟨d, hd, hv⟩ := h e (by simp)
    simp only [findAsking, hd, Sem.run_bind, tk_eq, Result.andThen_ok]
    cases hq : (c.1 == d.1 && c.2 == d.2)
    · simp only [Bool.false_eq_true, if_false]
      refine askingT_some c W v es (i + 1) (fun e' h'' => h e' (List.mem_cons_of_mem _ h'')) ?_
      obtain ⟨e', he', hk'⟩ := h'
      rcases List.mem_cons.1 he' with rfl | he''
      · exfalso
        rw [hk'] at hd
        have : c = d := by
          obtain ⟨c1, c2⟩ := c
          obtain ⟨d1, d2⟩ := d
          simp [tk] at hd
          simp [hd]
        subst this
        simp at hq
      · exact ⟨e', he'', hk'⟩
    · exact ⟨i, by simp [hv hq]⟩
theorem findKeyT_asking (c : Int × Int) (W : World) (e : MapEntry) (es : List MapEntry) {r : Option (Nat × Value)} (hr : (findAsking 62 (tk c) (e :: es) 0).run Tryd.prog W = .ok r W) :
    (findKey 62 (tk c) (e :: es)).run Tryd.prog W = .ok r W := by
  have hn : findNow (.struct (Tryd.prog.fieldsOf 62)) (tk c) (e :: es) 0 = none := by
    unfold findNow sameNow
    simp
  have hS : Tryd.prog.underlying 62 = some (.struct (Tryd.prog.fieldsOf 62)) := by kernel_rfl
  simp only [findKey, Sem.run_bind, run_underlying hS, Result.andThen_ok, hn, hr]
theorem findKeyT_nil (c : Int × Int) (W : World) : (findKey 62 (tk c) []).run Tryd.prog W = .ok none W := by
  have hS : Tryd.prog.underlying 62 = some (.struct (Tryd.prog.fieldsOf 62)) := by kernel_rfl
  simp only [findKey, Sem.run_bind, run_underlying hS, Result.andThen_ok, findNow, Sem.run_pure]
theorem mem_tm {l : List (Int × Int)} {e : MapEntry} (h : e ∈ tm l) : ∃ c j, c ∈ l ∧ e = tme c 1 j := by
  simp only [tm, List.mem_mapIdx] at h
  obtain ⟨j, hj, rfl⟩ := h
  exact ⟨l[j], j, List.getElem_mem _, rfl⟩
theorem tm_mem {l : List (Int × Int)} {c : Int × Int} (h : c ∈ l) : ∃ e ∈ tm l, e.key = tk c := by
  obtain ⟨j, hj, rfl⟩ := List.mem_iff_getElem.1 h
  exact ⟨tme l[j] 1 j, by simp only [tm, List.mem_mapIdx]; exact ⟨j, hj, rfl⟩, rfl⟩
theorem findT_out (l : List (Int × Int)) (c : Int × Int) (hc : c ∉ l) (W : World) : (findKey 62 (tk c) (tm l)).run Tryd.prog W = .ok none W := by
  have ha : ∀ es, es = tm l → (findKey 62 (tk c) es).run Tryd.prog W = .ok none W := by
    intro es hes
    cases es with
    | nil => exact findKeyT_nil c W
    | cons e es =>
      refine findKeyT_asking c W e es (askingT_none c W _ 0 fun e' he' => ?_)
      rw [hes] at he'
      obtain ⟨d, j, hd, rfl⟩ := mem_tm he'
      refine ⟨d, rfl, ?_⟩
      cases hq : (c.1 == d.1 && c.2 == d.2)
      · rfl
      · rw [pair_beq] at hq; subst hq; exact absurd hd hc
  exact ha _ rfl
theorem findT_in (l : List (Int × Int)) (c : Int × Int) (hc : c ∈ l) (W : World) : ∃ j, (findKey 62 (tk c) (tm l)).run Tryd.prog W = .ok (some (j, .int .i64 1)) W := by
  have ha : ∀ es, es = tm l → ∃ j, (findKey 62 (tk c) es).run Tryd.prog W = .ok (some (j, .int .i64 1)) W := by
    intro es hes
    cases es with
    | nil => obtain ⟨e, he, _⟩ := tm_mem hc; rw [← hes] at he; cases he
    | cons e es =>
      obtain ⟨j, hj⟩ := askingT_some c W (.int .i64 1) (e :: es) 0 (fun e' he' => by
        rw [hes] at he'
        obtain ⟨d, j, hd, rfl⟩ := mem_tm he'
        exact ⟨d, rfl, fun _ => rfl⟩) (by rw [hes]; exact tm_mem hc)
      exact ⟨j, findKeyT_asking c W e es hj⟩
  exact ha _ rfl
theorem findT_new (l : List (Int × Int)) (c : Int × Int) (hc : c ∉ l) (n : Nat) (W : World) : ∃ j, (findKey 62 (tk c) (tm l ++ [tme c 0 n])).run Tryd.prog W = .ok (some (j, .int .i64 0)) W := by
  have ha : ∀ es, es = tm l ++ [tme c 0 n] → ∃ j, (findKey 62 (tk c) es).run Tryd.prog W = .ok (some (j, .int .i64 0)) W := by
    intro es hes
    cases es with
    | nil => simp at hes
    | cons e es =>
      obtain ⟨j, hj⟩ := askingT_some c W (.int .i64 0) (e :: es) 0 (fun e' he' => by
        rw [hes] at he'
        rcases List.mem_append.1 he' with h | h
        · obtain ⟨d, j, hd, rfl⟩ := mem_tm h
          refine ⟨d, rfl, fun hq => ?_⟩
          rw [pair_beq] at hq; subst hq; exact absurd hd hc
        · simp at h; subst h; exact ⟨c, rfl, fun _ => rfl⟩) (by rw [hes]; exact ⟨tme c 0 n, by simp, rfl⟩)
      exact ⟨j, findKeyT_asking c W e es hj⟩
  exact ha _ rfl

section
variable {W : World} {B : Nat} {l : List (Int × Int)} {c : Int × Int}
theorem lookT_out (h : IsMap W B (tm l) l.length) (hc : c ∉ l) : (Instr.lookup 60 (.map (some B)) (tk c) false).run Tryd.prog W = .ok (.int .i64 0) W := by
  simp only [Instr.lookup, Sem.run_bind, run_underlying Tryd.underlying60, Result.andThen_ok, obj_get h, Sem.run_pure, tk_check, findT_out l c hc, zero_int]
  rfl
theorem lookT_in (h : IsMap W B (tm l) l.length) (hc : c ∈ l) : (Instr.lookup 60 (.map (some B)) (tk c) false).run Tryd.prog W = .ok (.int .i64 1) W := by
  obtain ⟨j, hj⟩ := findT_in l c hc W
  simp only [Instr.lookup, Sem.run_bind, run_underlying Tryd.underlying60, Result.andThen_ok, obj_get h, Sem.run_pure, tk_check, hj]
  rfl
theorem lookT_new {n : Nat} (h : IsMap W B (tm l ++ [tme c 0 l.length]) n) (hc : c ∉ l) : (Instr.lookup 60 (.map (some B)) (tk c) false).run Tryd.prog W = .ok (.int .i64 0) W := by
  obtain ⟨j, hj⟩ := findT_new l c hc l.length W
  simp only [Instr.lookup, Sem.run_bind, run_underlying Tryd.underlying60, Result.andThen_ok, obj_get h, Sem.run_pure, tk_check, hj]
  rfl
theorem entryT_new (h : IsMap W B (tm l) l.length) (hc : c ∉ l) :
    (Instr.mapEntry 60 (.map (some B)) (tk c)).run Tryd.prog W = .ok (.tuple #[.int .i64 0, .int .i64 l.length]) (setMap W B (tm l ++ [tme c 0 l.length]) (l.length + 1)) := by
  simp only [Instr.mapEntry, Sem.run_bind, run_underlying Tryd.underlying60, Result.andThen_ok, obj_get h, tk_check, findT_out l c hc, zero_int, Sem.run_pure]
  rw [show (tm l).toArray.push { key := tk c, val := Value.int IntKind.i64 0, born := l.length } = (tm l ++ [tme c 0 l.length]).toArray by simp [tme], obj_set h]
  rfl
theorem storeT_new {n : Nat} (h : IsMap W B (tm l ++ [tme c 0 l.length]) n) :
    (Instr.entryStore 60 (.map (some B)) (.int .i64 l.length) (.int .i64 1)).run Tryd.prog W = .ok () (setMap W B (tm (l ++ [c])) n) := by
  have hfi : (tm l ++ [tme c 0 l.length]).toArray.findIdx? (fun e => (e.born : Int) == (l.length : Int)) = some l.length := by
    rw [List.findIdx?_toArray, List.findIdx?_eq_some_iff_getElem]
    refine ⟨by simp [tm], ?_, fun j hj => ?_⟩
    · rw [List.getElem_append_right (by simp [tm])]
      simp [tm, tme]
    · rw [List.getElem_append_left (by simp [tm]; exact hj)]
      simp [tm, tme]
      omega
  have hmod : ((tm l ++ [tme c 0 l.length]).toArray.modify l.length fun e => { e with val := Value.int IntKind.i64 1 }) = (tm (l ++ [c])).toArray := by
    rw [tm_snoc]
    apply Array.ext
    · simp
    · intro i h1 h2
      simp only [Array.getElem_modify, List.getElem_toArray]
      by_cases hi : l.length = i
      · subst hi
        rw [if_pos rfl, List.getElem_append_right (by simp [tm]), List.getElem_append_right (by simp [tm])]
        simp [tm, tme]
      · rw [if_neg hi]
        have : i < (tm l).length := by simp [tm] at h2 ⊢; omega
        rw [List.getElem_append_left this, List.getElem_append_left this]
  simp only [Instr.entryStore, Sem.run_bind, Result.andThen_ok, obj_get h, asInt, asIntOf, Sem.run_pure, hfi]
  rw [hmod, obj_set h]
end
end Go.Proofs.YtonalhedjjobeaaDoor

namespace Go.Proofs.YtonalhedjjobeaaDoor
open Go.RowKit Go.Shelf
attribute [local go_sem] Oper.semAt_some

theorem nb_len {N : Nat} {es : List E} {rs : List (List Nat)} (hok : ∀ e ∈ es, okE N e) (hm : IsMapR N es rs) {a : Nat} (ha : a < N) : (rs.getD a []).length ≤ N := by
  have := (hm.nd a ha).length_le_of_subset (l₂ := List.range N) fun x hx => List.mem_range.2 (adj_lt hok ((hm.mem a ha x).1 hx)).2.1
  simpa using this
theorem iso_le (rs : List (List Nat)) (k : Nat) : cntB k (fun i => (rs.getD i []).isEmpty) ≤ k := by
  unfold cntB
  exact Nat.le_trans (List.length_filter_le _ _) (by simp)
theorem setMap_blk {W : World} {B b : Nat} {t : TypeId} {cs : Array Value} (h : Blk W b t cs) (hne : b ≠ B) (es : List MapEntry) (k : Nat) : Blk (setMap W B es k) b t cs := by
  show (W.heap.setIfInBounds B _)[b]? = _
  rw [Array.getElem?_setIfInBounds, if_neg (Ne.symm hne)]
  exact h
set_option maxHeartbeats 3200000 in
set_option maxRecDepth 100000 in
theorem faces_any (N : Nat) (R : Option Addr) (c : Nat) (l : List Rw) (rs : List (List Nat)) (es : List E) (w : World) (hR : RdR w R N l) (hz : ∀ i, i < N → (rat l i).zs = natI (rs.getD i [])) (hm : IsMapR N es rs) (hd : Dst N es) (hN : N ≤ 10) (hE : es.length ≤ 45) :
    Calls Tryd.prog 18 #[.slice R N c] w fun e w' => ∃ m : Nat, e = .returned (.int .i64 ((m + isoN rs N : Nat) : Int)) ∧ Cyc (dl es) (ph rs) m ∧ Below w.heap.size w w' := by
  have hPH := Lib.hid (ph_perm hd.ok hm)
  have hokH := Lib.hid hd.ok
  have hDl : (dl es).length ≤ 90 := by rw [dl_length]; omega
  have hRH := Lib.hid hR; have hzH := Lib.hid hz; have hmH := Lib.hid hm
  clear hR hz hm hd hE
  generalize hDD : dl es = D at *
  have hDH := Lib.hid (show ∀ d, d ∈ D ↔ adj es d.1 d.2 = true from fun d => by rw [← hDD]; exact mem_dl hokH.out)
  clear hDD
  have hmm := @run_makeMap Tryd.prog
  go_enter Tryd.func18, Tryd.ntmps18
  go_wp2
  clear hmm
  have hM0 := isMap_made w
  have hB0 := (Below.refl _ w).alloc (Nat.le_refl _) (.map #[] 0)
  have hs0 : (w.alloc (.map #[] 0)).heap.size = w.heap.size + 1 := by simp
  generalize w.alloc (.map #[] 0) = w0 at *
  go_loopw [4, 5, 6, 13] (fun nv _ _ q wr => ∃ (k : Nat) (sl reps : List (Nat × Nat)), k ≤ N ∧ q = .int .i64 k ∧ nv = .int .i64 ((cntB k (fun i => (rs.getD i []).isEmpty) + reps.length : Nat) : Int) ∧ FI D (ph rs) sl reps ∧ (∀ z ∈ D, z.1 < k → z ∈ sl) ∧ IsMap wr w.heap.size (tm (sl.map cI)) (sl.map cI).length ∧ Below w.heap.size w wr) (fun _ _ _ q _ => N - (intOf q).toNat)
  case atStart => exact ⟨0, [], [], Nat.zero_le _, rfl, rfl, FI.start _ _, fun z _ h => absurd h (by omega), hM0, hB0⟩
  case round =>
    clear hM0 hB0 hs0
    obtain ⟨wo, rfl⟩ : ∃ wo : World, wo = wr := ⟨_, rfl⟩
    obtain ⟨k, sl, reps, hk, rfl, rfl, hI, hcov, hMp, hb⟩ := hrel
    have hIH := Lib.hid hI; have hcovH := Lib.hid hcov; have hMpH := Lib.hid hMp; have hbH := Lib.hid hb
    have hrl := hI.rlen
    have hil := iso_le rs k
    by_cases hlt : k < N
    · obtain ⟨bR, oR, rfl, hbR, hcR, _⟩ := (hRH.out.later hb).at hlt
      have hrd : Rd w (rat l k).A (rat l k).len 1 (ints .i64 (rat l k).zs) := (hRH.out.2.2 _ (rat_mem (by rw [hRH.out.1]; exact hlt))).1
      have hzk := hzH.out k hlt
      rw [hzk] at hrd
      have hll : (rs.getD k []).length = (rat l k).len := by simpa [ints, natI] using hrd.1
      have hl10 := nb_len hokH.out hmH.out hlt
      have hisoS := cntB_succ k (fun i => (rs.getD i []).isEmpty)
      have hadj := Lib.hid (hmH.out.mem k hlt)
      generalize (rat l k).A = rA at *
      generalize (rat l k).cap = rc at *
      generalize (rat l k).len = rl at *
      generalize hnb : rs.getD k [] = nb at *
      have hnbH := Lib.hid hnb
      have hk0 : (0 : Int) ≤ (k : Int) := by omega
      have hkn : (k : Int) < (N : Int) := by omega
      clear hI hcov hMp hb hzk hnb
      have hrdH := Lib.hid hrd
      clear hrd
      by_cases h0 : rl = 0
      · subst h0
        obtain rfl := List.length_eq_zero_iff.1 hll
        have hcnt := Lib.hid (show cntB (k + 1) (fun i => (rs.getD i []).isEmpty) + reps.length = (cntB k (fun i => (rs.getD i []).isEmpty) + reps.length) + 1 by
          rw [hisoS]; simp; omega)
        clear hisoS hll hl10
        have hcb : cntB k (fun i => (rs.getD i []).isEmpty) + reps.length ≤ 1000 := by omega
        generalize cntB k (fun i => (rs.getD i []).isEmpty) + reps.length = n at *
        go_wp2
        obtain ⟨w2, hw2⟩ : ∃ w2 : World, w2 = wo := ⟨_, rfl⟩
        go_loopw [4, 8, 9, 25] (fun nv _ _ q wx => nv = .int .i64 ((n : Int) + 1) ∧ q = .int .i64 0 ∧ wx = w2) (fun _ _ _ _ _ => 0)
        case atStart => exact ⟨by trivial, by trivial, hw2.symm⟩
        case round =>
          obtain ⟨rfl, rfl, rfl⟩ := hrel
          subst hw2
          go_wp2
          go_roundw
          case rel => exact ⟨k + 1, sl, reps, by omega, by go_num, by rw [hcnt.out]; go_num, hIH.out, fun z hz h => by
            by_cases e : z.1 = k
            · have := (hDH.out z).1 hz
              rw [e] at this
              have := (hadj.out z.2).2 this
              simp at this
            · exact hcovH.out z hz (by omega), hMpH.out, hbH.out⟩
          case measure => simp [intOf]; omega
      · have hemp : nb.isEmpty = false := by cases nb with | nil => simp at hll; omega | cons a l => rfl
        have hcnt := Lib.hid (show cntB (k + 1) (fun i => (rs.getD i []).isEmpty) = cntB k (fun i => (rs.getD i []).isEmpty) by
          rw [hisoS, hemp]; rfl)
        have hrl10 : rl ≤ 10 := by omega
        have hdm := Lib.hid (show ∀ t, t < rl → (k, nb.getD t 0) ∈ D from fun t ht => (hDH.out _).2 ((hadj.out _).1 (by
          rw [List.getD, List.getElem?_eq_getElem (by omega)]; exact List.getElem_mem _)))
        have hzfin := Lib.hid (show ∀ (s : List (Nat × Nat)), (∀ z ∈ D, z.1 < k → z ∈ s) → (∀ t, t < rl → (k, nb.getD t 0) ∈ s) → ∀ z ∈ D, z.1 < k + 1 → z ∈ s from fun s h1 h2 z hz h => by
          by_cases e : z.1 = k
          · have ha := (hDH.out z).1 hz
            rw [e] at ha
            have hm2 := (hadj.out z.2).2 ha
            have := h2 (nb.idxOf z.2) (by rw [← hll]; exact List.idxOf_lt_length_of_mem hm2)
            rw [getD_idxOf hm2, ← e] at this
            exact this
          · exact h1 z hz (by omega))
        have hllH := Lib.hid hll
        have hq100 : cntB k (fun i => (rs.getD i []).isEmpty) ≤ 100 := by omega
        generalize cntB k (fun i => (rs.getD i []).isEmpty) = q0 at *
        have h00 : ((rl : Int) == 0) = false := by rw [beq_eq_false_iff_ne]; omega
        clear hisoS hll hl10 hemp hil
        go_wp2
        clear h00 hcR
        go_loopw [4, 8, 9, 25] (fun nv _ _ qv wx => ∃ (j : Nat) (s r : List (Nat × Nat)), j ≤ rl ∧ qv = .int .i64 j ∧ nv = .int .i64 ((q0 + r.length : Nat) : Int) ∧ FI D (ph rs) s r ∧ (∀ z ∈ D, z.1 < k → z ∈ s) ∧ (∀ t, t < j → (k, nb.getD t 0) ∈ s) ∧ IsMap wx w.heap.size (tm (s.map cI)) (s.map cI).length ∧ Below w.heap.size w wx) (fun _ _ _ q _ => rl - (intOf q).toNat)
        case atStart => exact ⟨0, sl, reps, Nat.zero_le _, rfl, rfl, hIH.out, hcovH.out, fun t ht => absurd ht (by omega), hMpH.out, hbH.out⟩
        case round =>
          clear hIH hcovH hMpH hbH hrl
          obtain ⟨wm, rfl⟩ : ∃ wm : World, wm = wr := ⟨_, rfl⟩
          obtain ⟨j, s, r, hj, rfl, rfl, hI, hcov, hrow, hMp, hb⟩ := hrel
          have hrl := hI.rlen
          have hszm := isMap_lt hMp
          by_cases hjl : j < rl
          · obtain ⟨bb, oo, rfl, hbb, hcj⟩ := (hrdH.out.later hb).int hjl
            rw [natI_at (by rw [hllH.out]; exact hjl)] at hcj
            have hdD := hdm.out j hjl
            have hrow' := Lib.hid (show (k, nb.getD j 0) ∈ s → ∀ t, t < j + 1 → (k, nb.getD t 0) ∈ s from fun h t ht => by
              by_cases e : t = j
              · subst e; exact h
              · exact hrow t (by omega))
            have hrowN := Lib.hid (show ∀ s' : List (Nat × Nat), (∀ z ∈ s, z ∈ s') → (k, nb.getD j 0) ∈ s' → ∀ t, t < j + 1 → (k, nb.getD t 0) ∈ s' from fun s' h1 h2 t ht => by
              by_cases e : t = j
              · subst e; exact h2
              · exact h1 _ (hrow t (by omega)))
            generalize nb.getD j 0 = b at *
            have hj0 : (0 : Int) ≤ (j : Int) := by omega
            have hjr : (j : Int) < (rl : Int) := by omega
            have hMd := isMap_alloc hMp (.cells #[.int .i64 (k : Int), .int .i64 (b : Int)] 62)
            have hbd := hb.alloc hb.size (.cells #[.int .i64 (k : Int), .int .i64 (b : Int)] 62)
            have hKd := Blk.new wm 62 #[.int .i64 (k : Int), .int .i64 (b : Int)]
            have hIH := Lib.hid hI; have hcovH := Lib.hid hcov; have hbdH := Lib.hid hbd; have hMdH := Lib.hid hMd; have hKdH := Lib.hid hKd; have hdDH := Lib.hid hdD
            by_cases hin : (k, b) ∈ s
            · have hlk := lookT_in (c := cI (k, b)) hMd (cI_mem.2 hin)
              unfold tk cI at hlk
              dsimp only at hlk
              have hr' := Lib.hid (hrow'.out hin)
              clear hI hcov hrow hMp hb hMd hbd hKd hin hdD
              go_wp2
              go_roundw
              case rel => exact ⟨j + 1, s, r, by omega, by go_num, rfl, hIH.out, hcovH.out, hr'.out, hMdH.out, hbdH.out⟩
              case measure => simp [intOf]; omega
            · have hlk := lookT_out (c := cI (k, b)) hMd (fun h => hin (cI_mem.1 h))
              unfold tk cI at hlk
              dsimp only at hlk
              have hinH := Lib.hid hin
              have hn1 : IntKind.i64.wrap (((q0 + r.length : Nat) : Int) + 1) = ((q0 + r.length : Nat) : Int) + 1 := IntWalk.i64_in _ (by omega)
              clear hI hcov hrow hMp hb hMd hbd hKd hin hdD
              go_wp2
              clear hlk hn1 hcj
              have hDl' := hDl
              have hsD := Lib.hid hIH.out.sub
              obtain ⟨wd, hwd⟩ : ∃ wd : World, wm.alloc (.cells #[.int .i64 (k : Int), .int .i64 (b : Int)] 62) = wd := ⟨_, rfl⟩
              rw [hwd] at hbdH hMdH hKdH ⊢
              have hszd : wm.heap.size < wd.heap.size := hKdH.out.lt
              clear hwd
              go_loopg [] 91 (fun g wy => ∃ (t : Nat) (cur : List (Nat × Nat)), FJ D (ph rs) s (k, b) t cur ∧ 91 ≤ g + cur.length ∧ IsMap wy w.heap.size (tm (cur.map cI)) (cur.map cI).length ∧ Blk wy wm.heap.size 62 #[.int .i64 ((itn (ph rs) t (k, b)).1 : Int), .int .i64 ((itn (ph rs) t (k, b)).2 : Int)] ∧ Below w.heap.size w wy)
              case atStart => exact ⟨0, s, hIH.out.fj, by omega, hMdH.out, hKdH.out, hbdH.out⟩
              case round =>
                clear hbdH hMdH hKdH
                obtain ⟨wn, rfl⟩ : ∃ wn : World, wn = wr := ⟨_, rfl⟩
                obtain ⟨G0, rfl⟩ : ∃ G0, G0 = gk := ⟨_, rfl⟩
                obtain ⟨t, cur, hJ, hg, hMp, hK, hb⟩ := hrel
                have hcl := hJ.len hPH.out hsD.out hdDH.out
                have hzD := hPH.out.itn hdDH.out t
                have hJH := Lib.hid hJ
                have hdone := Lib.hid (show itn (ph rs) t (k, b) ∈ cur → FI D (ph rs) cur (r ++ [(k, b)]) ∧ (∀ z ∈ s, z ∈ cur) ∧ (k, b) ∈ cur from fun h => by
                  have h1 := hJ.done hIH.out hPH.out hdDH.out hinH.out h
                  exact ⟨h1, fun z hz => by rw [hJ.eq]; exact List.mem_append_left _ hz, (h1.cl _ hdDH.out).2 ⟨(k, b), by simp, Orb.refl _ _⟩⟩)
                have hstep := Lib.hid (show itn (ph rs) t (k, b) ∉ cur → FJ D (ph rs) s (k, b) (t + 1) (cur ++ [itn (ph rs) t (k, b)]) from hJ.step)
                have hnxt : itn (ph rs) (t + 1) (k, b) = ph rs (itn (ph rs) t (k, b)) := rfl
                rw [show itn (ph rs) (t + 1) (k, b) = ph rs (itn (ph rs) t (k, b)) from rfl] at hnxt
                have hnx2 := Lib.hid hnxt
                have hitn := Lib.hid (show ∀ z, itn (ph rs) t (k, b) = z → itn (ph rs) (t + 1) (k, b) = ph rs z from fun z h => by rw [← h]; rfl)
                obtain ⟨z, hzz⟩ : ∃ z, itn (ph rs) t (k, b) = z := ⟨_, rfl⟩
                have hnz := Lib.hid (hitn.out z hzz)
                rw [hzz] at hzD hdone hstep hK
                clear hnxt hnx2 hitn hzz hJ
                obtain ⟨a1, b1⟩ := z
                dsimp only at hK
                have k0 := hK.cell (j := 0) (v := .int .i64 (a1 : Int)) rfl
                have k1 := hK.cell (j := 1) (v := .int .i64 (b1 : Int)) rfl
                have hKH := Lib.hid hK; have hMpH := Lib.hid hMp; have hbH := Lib.hid hb
                by_cases hz : (a1, b1) ∈ cur
                · have hlk := lookT_in (c := cI (a1, b1)) hMp (cI_mem.2 hz)
                  unfold tk cI at hlk
                  dsimp only at hlk
                  obtain ⟨hI3, hsub, hd3⟩ := hdone.out hz
                  have hI3H := Lib.hid hI3
                  have hcov3 := Lib.hid (show ∀ z ∈ D, z.1 < k → z ∈ cur from fun z hz h => hsub z (hcovH.out z hz h))
                  have hrow3 := Lib.hid (hrowN.out cur hsub hd3)
                  clear hI3 hsub hd3 hz hzD hK hMp hb hdone hstep hnz
                  go_wp2
                  go_roundw
                  case rel => exact ⟨j + 1, cur, r ++ [(k, b)], by omega, by go_num, by go_num, hI3H.out, hcov3.out, hrow3.out, hMpH.out, hbH.out⟩
                  case measure => simp [intOf]; omega
                · have hlk := lookT_out (c := cI (a1, b1)) hMp (fun h => hz (cI_mem.1 h))
                  obtain ⟨X2, hX2⟩ : ∃ X2, X2 = setMap wn.drew w.heap.size (tm (cur.map cI) ++ [tme (cI (a1, b1)) 0 (cur.map cI).length]) ((cur.map cI).length + 1) := ⟨_, rfl⟩
                  obtain ⟨X3, hX3⟩ : ∃ X3, X3 = setMap X2 w.heap.size (tm (cur.map cI ++ [cI (a1, b1)])) ((cur.map cI).length + 1) := ⟨_, rfl⟩
                  have hI2 : IsMap X2 w.heap.size (tm (cur.map cI) ++ [tme (cI (a1, b1)) 0 (cur.map cI).length]) ((cur.map cI).length + 1) := by rw [hX2]; exact isMap_set (isMap_drew hMp) _ _
                  have hnm : cI (a1, b1) ∉ cur.map cI := fun h => hz (cI_mem.1 h)
                  have e1 := lookT_out (c := cI (a1, b1)) (isMap_drew hMp) hnm
                  have e2 := entryT_new (c := cI (a1, b1)) (isMap_drew hMp) hnm
                  have e3 := lookT_new (c := cI (a1, b1)) hI2 hnm
                  have e4 := storeT_new (c := cI (a1, b1)) hI2
                  have hI3 : IsMap X3 w.heap.size (tm (cur.map cI ++ [cI (a1, b1)])) ((cur.map cI).length + 1) := by rw [hX3]; exact isMap_set hI2 _ _
                  have hB3 : Below w.heap.size w X3 := by
                    rw [hX3, hX2]
                    exact setMap_below (setMap_below hb.drew (Nat.le_refl _) _ _) (Nat.le_refl _) _ _
                  have hMne : wm.heap.size ≠ w.heap.size := by omega
                  have hK3 : Blk X3 wm.heap.size 62 #[.int .i64 (a1 : Int), .int .i64 (b1 : Int)] := by
                    rw [hX3, hX2]
                    exact setMap_blk (setMap_blk (show Blk wn.drew _ _ _ from hK) hMne _ _) hMne _ _
                  rw [← hX2] at e2
                  rw [← hX3] at e4
                  rw [List.length_map] at e4
                  have ha := (hDH.out (a1, b1)).1 hzD
                  have hlab := adj_lt hokH.out ha
                  have hrow1 := hzH.out b1 hlab.2.1
                  have hmem1 : a1 ∈ rs.getD b1 [] := (hmH.out.mem b1 hlab.2.1 a1).2 (by rw [adj_symm]; exact ha)
                  have hlen1 := nb_len hokH.out hmH.out hlab.2.1
                  have HX := Lib.hid (next_any (some ⟨bR, oR, none⟩) N c l X3 (hRH.out.later hB3) (rs.getD b1 []) a1 b1 hlab.2.1 hrow1 hmem1 (Nat.le_trans hlen1 hN))
                  have hnz2 := Lib.hid (show itn (ph rs) (t + 1) (k, b) = (b1, nx (rs.getD b1 []) a1) from hnz.out)
                  have hJ2 := Lib.hid (hstep.out hz)
                  have hI3H := Lib.hid (show IsMap X3 w.heap.size (tm ((cur ++ [(a1, b1)]).map cI)) ((cur ++ [(a1, b1)]).map cI).length from by
                    rw [List.map_append, List.length_append]; exact hI3)
                  unfold tk cI at e1 e2 e3 hlk
                  dsimp only at e1 e2 e3 hlk
                  have hB3H := Lib.hid hB3; have hK3H := Lib.hid hK3; have hI2H := Lib.hid hI2
                  have kd0 : wn.drew.cell? ⟨wm.heap.size, 0, none⟩ = some (.int .i64 (a1 : Int)) := k0
                  have kd1 : wn.drew.cell? ⟨wm.heap.size, 1, none⟩ = some (.int .i64 (b1 : Int)) := k1
                  have k30 := hK3.cell (j := 0) (v := .int .i64 (a1 : Int)) rfl
                  have k31 := hK3.cell (j := 1) (v := .int .i64 (b1 : Int)) rfl
                  have hcl1 : (cur ++ [(a1, b1)]).length = cur.length + 1 := by simp
                  clear hX2 hX3 hI3 hB3 hMne hK3 ha hlab hrow1 hmem1 hlen1 hz hzD hK hMp hb hdone hstep hnz hnm hI2
                  go_upto_region 16 with fail
                  clear hlk k0 k1
                  go_region
                  all_goals
                    clear e1 e2 e3 e4 kd0 kd1
                    go_wp2_with fail
                    refine HX.out.mono ?_
                    rintro _ w5 ⟨rfl, hb5⟩
                    have hs5 := hb5.size
                    have hK5 := hK3H.out.below hb5 hK3H.out.lt
                    have hM5 := isMap_below hI3H.out (isMap_lt hI3H.out) hb5
                    have hbw5 := hB3H.out.trans (hb5.mono hB3H.out.size)
                    have c50 := hK5.cell (j := 0) (v := .int .i64 (a1 : Int)) rfl
                    have c51 := hK5.cell (j := 1) (v := .int .i64 (b1 : Int)) rfl
                    have f50 := hK5.frozen 0
                    have f51 := hK5.frozen 1
                    have hl5 := hK5.lt
                    generalize nx (rs.getD b1 []) a1 = y at *
                    have hfin := Lib.hid (show ∃ (t : Nat) (cur : List (Nat × Nat)), FJ D (ph rs) s (k, b) t cur ∧ 91 ≤ (G0 - 1) + cur.length ∧ IsMap ((w5.setCell ⟨wm.heap.size, 0, none⟩ (.int .i64 (b1 : Int))).setCell ⟨wm.heap.size, 1, none⟩ (.int .i64 (y : Int))) w.heap.size (tm (cur.map cI)) (cur.map cI).length ∧ Blk ((w5.setCell ⟨wm.heap.size, 0, none⟩ (.int .i64 (b1 : Int))).setCell ⟨wm.heap.size, 1, none⟩ (.int .i64 (y : Int))) wm.heap.size 62 #[.int .i64 ((itn (ph rs) t (k, b)).1 : Int), .int .i64 ((itn (ph rs) t (k, b)).2 : Int)] ∧ Below w.heap.size w ((w5.setCell ⟨wm.heap.size, 0, none⟩ (.int .i64 (b1 : Int))).setCell ⟨wm.heap.size, 1, none⟩ (.int .i64 (y : Int))) from by
                      refine ⟨t + 1, cur ++ [(a1, b1)], hJ2.out, by rw [hcl1]; omega, ?_, ?_, (hbw5.setCell (p := ⟨wm.heap.size, 0, none⟩) (by show w.heap.size ≤ wm.heap.size; omega) _).setCell (p := ⟨wm.heap.size, 1, none⟩) (by show w.heap.size ≤ wm.heap.size; omega) _⟩
                      · exact ((Below.heap_setCell _ _ _ _ (by show w.heap.size ≠ wm.heap.size; omega)).trans (Below.heap_setCell _ _ _ _ (by show w.heap.size ≠ wm.heap.size; omega))).trans hM5
                      · rw [hnz2.out]
                        exact (hK5.set 0 (.int .i64 (b1 : Int))).set 1 (.int .i64 (y : Int)))
                    clear hK5 hM5 hbw5 hb5 hcl1
                    go_wp2
                    go_roundg (G0 - 1)
                    case measure => omega
                    case rel => exact hfin.out
          · obtain rfl : rl = j := by omega
            have hIH := Lib.hid hI; have hbH := Lib.hid hb; have hMpH := Lib.hid hMp
            have hz2 := Lib.hid (hzfin.out s hcov hrow)
            clear hI hcov hrow hMp hb
            go_wp2
            go_roundw
            case rel => exact ⟨k + 1, s, r, by omega, by go_num, by rw [hcnt.out], hIH.out, hz2.out, hMpH.out, hbH.out⟩
            case measure => simp [intOf]; omega
    · obtain rfl : k = N := by omega
      have hfin := Lib.hid (hIH.out.cyc fun z hz => hcovH.out z hz (adj_lt hokH.out ((hDH.out z).1 hz)).1)
      have he := Lib.hid (show cntB k (fun i => (rs.getD i []).isEmpty) + reps.length = reps.length + isoN rs k by unfold isoN; omega)
      clear hI hcov hMp hb hrl hil
      generalize cntB k (fun i => (rs.getD i []).isEmpty) + reps.length = n at *
      go_wp2
      go_ret
      exact ⟨reps.length, by rw [← he.out]; rfl, hfin.out, hbH.out⟩
end Go.Proofs.YtonalhedjjobeaaDoor
