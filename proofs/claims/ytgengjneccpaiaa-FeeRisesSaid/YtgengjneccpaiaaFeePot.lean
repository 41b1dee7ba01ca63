/- Potentials: what a flow costs at least. No program in sight. -/
import Derived.Test.YtgengjneccpaiaaFlowLaw
namespace Go.Proofs.Ytgengjneccpaiaa
open Go.RowKit

theorem smf_mul (c : Int) (g : Nat → Int) : ∀ n, sm n (fun k => c * g k) = c * sm n g
  | 0 => by simp [sm]
  | n + 1 => by rw [sm, sm, smf_mul c g n, Int.mul_add]
theorem smf_sub (g h : Nat → Int) : ∀ n, sm n (fun k => g k - h k) = sm n g - sm n h
  | 0 => rfl
  | n + 1 => by rw [sm, sm, sm, smf_sub g h n]; omega
theorem smf_nonneg {g : Nat → Int} : ∀ {n : Nat}, (∀ k, k < n → 0 ≤ g k) → 0 ≤ sm n g
  | 0, _ => Int.le_refl _
  | n + 1, h => by
    have := smf_nonneg (n := n) (g := g) fun k hk => h k (by omega)
    have := h n (by omega)
    rw [sm]; omega
def far : Int := 1152921504606846976
def feA (l : List Arc) (k : Nat) : Int := (aat l k).2.2.2
def cst (l : List Arc) (x : Stp) : Int := if x.2 then -feA l x.1 else feA l x.1
def costF (l : List Arc) (f : Nat → Int) : Int := sm l.length fun k => f k * feA l k
def Pt (l : List Arc) (f q : Nat → Int) : Prop := ∀ x : Stp, x.1 < l.length → 0 < rm l f x → q (dst l x) ≤ q (src l x) + cst l x
section
variable {N s t : Nat} {l : List Arc} {f g q : Nat → Int} {u v : Int}
/-- what comes in at the end -/
theorem FL.atEnd (hn : NOk N l) (h : FL N l s t f v) (hs : s < N) (ht : t < N) (hst : s ≠ t) : ex l f t = -v := by
  have h1 := exS_sum hn f (fun _ => true)
  have h2 : exS l f (fun _ => true) = 0 := by
    unfold exS
    rw [sm_congr (h := fun _ => 0) (fun k _ => by simp), sm_zero]
  rw [h2, sm_congr (h := fun x => (if x = s then v else 0) + if x = t then ex l f t else 0) (n := N), sm_add, sm_one, sm_one, if_pos hs, if_pos ht] at h1
  · omega
  · intro x hx
    simp only [if_true]
    by_cases e : x = s
    · subst e; rw [if_pos rfl, if_neg hst, h.vl]; omega
    · by_cases e2 : x = t
      · subst e2; rw [if_neg e, if_pos rfl]; omega
      · rw [if_neg e, if_neg e2, h.kp x hx e e2]; rfl
theorem pot_sum (hn : NOk N l) (h q : Nat → Int) : (sm l.length fun k => h k * (q (fr l k) - q (tn l k))) = sm N fun x => q x * ex l h x := by
  have e : (sm N fun x => q x * ex l h x) = sm N fun x => sm l.length fun k => q x * ((if x = fr l k then h k else 0) - if x = tn l k then h k else 0) := sm_congr fun x _ => by
    unfold ex; rw [smf_mul]
  rw [e, sm_swap]
  refine sm_congr fun k hk => ?_
  obtain ⟨h1, h2, _⟩ := hn.at hk
  rw [sm_congr (h := fun x => (if x = fr l k then q (fr l k) * h k else 0) - if x = tn l k then q (tn l k) * h k else 0), smf_sub, sm_one, sm_one, if_pos h1, if_pos h2, Int.mul_sub, Int.mul_comm, Int.mul_comm (h k)]
  intro x _
  rw [Int.mul_sub]
  congr 1
  · split
    · rename_i e; rw [e]
    · exact Int.mul_zero _
  · split
    · rename_i e; rw [e]
    · exact Int.mul_zero _
/-- no flow costs less than the potentials say -/
theorem Pt.least (hn : NOk N l) (hs : s < N) (ht : t < N) (hst : s ≠ t) (hf : FL N l s t f v) (hg : FL N l s t g u) (hP : Pt l f q) : costF l f + (u - v) * (q t - q s) ≤ costF l g := by
  have hterm : 0 ≤ sm l.length fun k => (g k - f k) * (feA l k + (q (fr l k) - q (tn l k))) := smf_nonneg fun k hk => by
    have hfk := hf.ok k hk; have hgk := hg.ok k hk
    by_cases h1 : f k < g k
    · have := hP (k, false) hk (show 0 < mo l k - f k by omega)
      have e : q (tn l k) ≤ q (fr l k) + feA l k := this
      exact Int.mul_nonneg (by omega) (by omega)
    · by_cases h2 : g k < f k
      · have := hP (k, true) hk (show 0 < f k by omega)
        have e : q (fr l k) ≤ q (tn l k) + -feA l k := this
        exact Int.mul_nonneg_of_nonpos_of_nonpos (by omega) (by omega)
      · rw [show g k - f k = 0 by omega, Int.zero_mul]; exact Int.le_refl _
  have hsplit : (sm l.length fun k => (g k - f k) * (feA l k + (q (fr l k) - q (tn l k)))) = (costF l g - costF l f) + ((sm l.length fun k => g k * (q (fr l k) - q (tn l k))) - sm l.length fun k => f k * (q (fr l k) - q (tn l k))) := by
    unfold costF
    rw [← smf_sub, ← smf_sub, ← sm_add]
    exact sm_congr fun k _ => by rw [Int.sub_mul, Int.mul_add, Int.mul_add]; omega
  have hval : ∀ {h : Nat → Int} {w : Int}, FL N l s t h w → (sm l.length fun k => h k * (q (fr l k) - q (tn l k))) = w * (q s - q t) := fun {h w} hh => by
    rw [pot_sum hn, sm_congr (h := fun x => (if x = s then q s * w else 0) + if x = t then q t * -w else 0), sm_add, sm_one, sm_one, if_pos hs, if_pos ht, Int.mul_sub, Int.mul_comm, Int.mul_neg, Int.mul_comm (q t)]
    · omega
    · intro x hx
      by_cases e : x = s
      · subst e; rw [if_pos rfl, if_neg hst, hh.vl, Int.add_zero]
      · by_cases e2 : x = t
        · subst e2; rw [if_neg e, if_pos rfl, hh.atEnd hn hs ht hst, Int.zero_add]
        · rw [if_neg e, if_neg e2, hh.kp x hx e e2]; simp
  rw [hsplit, hval hf, hval hg] at hterm
  have e1 : (u - v) * (q t - q s) = -(u * (q s - q t) - v * (q s - q t)) := by rw [← Int.sub_mul, ← Int.mul_neg, Int.neg_sub]
  rw [e1]
  omega
/-- a push along tight steps -/
theorem Pt.push {vis : List Nat} {c : Int} {ws : List Stp} {a : Nat} (hP : Pt l f q) (hw : Wy l f vis t c ws a) (hnd : vis.Nodup) (hT : ∀ y ∈ ws, q (dst l y) = q (src l y) + cst l y) : Pt l (pshs f c ws) q := by
  intro x hx hr
  obtain ⟨k, b⟩ := x
  rcases hw.once hnd k with ⟨_, e⟩ | ⟨b', hm, _, _, _⟩
  · refine hP (k, b) hx ?_
    have e2 : rm l (pshs f c ws) (k, b) = rm l f (k, b) := by
      unfold rm
      dsimp only
      rw [e]
    rw [← e2]; exact hr
  · have h1 := hT _ hm
    cases b <;> cases b' <;> simp only [src, dst, cst, if_true, Bool.false_eq_true, if_false] at h1 ⊢ <;> omega
theorem bound_all (F : Stp → Int) : ∀ m : Nat, ∃ B : Int, 0 ≤ B ∧ ∀ x : Stp, x.1 < m → F x ≤ B
  | 0 => ⟨0, by omega, fun x hx => absurd hx (by omega)⟩
  | m + 1 => by
    obtain ⟨B, h0, hB⟩ := bound_all F m
    refine ⟨max B (max (F (m, false)) (F (m, true))), by omega, fun x hx => ?_⟩
    obtain ⟨k, b⟩ := x
    by_cases e : k = m
    · subst e; cases b <;> omega
    · have := hB (k, b) (show k < m by have : k < m + 1 := hx; omega)
      omega
/-- new potentials: how cheap each one is come to; the others far up -/
theorem Pt.next {d : Nat → Int} {R : Nat → Bool} (hP : Pt l f q) (hst : ∀ x : Stp, x.1 < l.length → 0 < rm l f x → R (src l x) = true → R (dst l x) = true ∧ d (dst l x) ≤ d (src l x) + cst l x) : ∃ q', Pt l f q' ∧ ∀ u, R u = true → q' u = d u := by
  obtain ⟨B, _, hB⟩ := bound_all (fun x => d (dst l x) - q (src l x) - cst l x) l.length
  refine ⟨fun u => if R u = true then d u else q u + B, fun x hx hr => ?_, fun u hu => if_pos hu⟩
  have h1 := hP x hx hr
  have h2 := hB x hx
  dsimp only at h2 ⊢
  by_cases ha : R (src l x) = true
  · obtain ⟨h3, h4⟩ := hst x hx hr ha
    rw [if_pos ha, if_pos h3]; exact h4
  · rw [if_neg ha]
    split <;> omega
/-- the last steps lead back to where nothing got better (st = 0); st tells the round in which it last did -/
inductive Chn (l : List Arc) (f : Nat → Int) (st : Nat → Nat) (d : Nat → Int) (py : Nat → Stp) : Nat → Prop
  | root {b : Nat} (h : st b = 0) : Chn l f st d py b
  | step {b : Nat} (hb : st b ≠ 0) (hx : (py b).1 < l.length) (hr : 0 < rm l f (py b)) (hd : dst l (py b) = b) (hle : d (src l (py b)) + cst l (py b) ≤ d b) (hs : st b ≤ st (src l (py b)) + 1) (hf : d (src l (py b)) < far) (h : Chn l f st d py (src l (py b))) : Chn l f st d py b
def updB {α : Type} (g : Nat → α) (b : Nat) (x : α) : Nat → α := fun i => if i = b then x else g i
theorem updB_same {α : Type} (g : Nat → α) (b : Nat) (x : α) : updB g b x b = x := if_pos rfl
theorem updB_other {α : Type} (g : Nat → α) {b i : Nat} (x : α) (h : i ≠ b) : updB g b x i = g i := if_neg h
theorem Chn.upd {st : Nat → Nat} {r : Nat} {d : Nat → Int} {py : Nat → Stp} {x : Stp} (hP : Pt l f q) (hx : x.1 < l.length) (hr : 0 < rm l f x) (hlt : d (src l x) + cst l x < d (dst l x)) (hfa : d (src l x) < far) (hr0 : r ≠ 0) (hst : ∀ u, st u ≤ r) (hsa : r ≤ st (src l x) + 1) (ha : Chn l f st d py (src l x)) {v : Nat} (hv : Chn l f st d py v) :
    Chn l f (updB st (dst l x) r) (updB d (dst l x) (d (src l x) + cst l x)) (updB py (dst l x) x) v := by
  have hq := hP x hx hr
  have hne : src l x ≠ dst l x := fun e => by rw [e] at hlt hq; omega
  have hdn : ∀ u, updB d (dst l x) (d (src l x) + cst l x) u ≤ d u := fun u => by unfold updB; split <;> (try subst u) <;> omega
  have hdo : ∀ u, u ≠ dst l x → updB d (dst l x) (d (src l x) + cst l x) u = d u := fun u hu => updB_other _ _ hu
  have hpo : ∀ u, u ≠ dst l x → updB py (dst l x) x u = py u := fun u hu => updB_other _ _ hu
  have hso : ∀ u, u ≠ dst l x → updB st (dst l x) r u = st u := fun u hu => updB_other _ _ hu
  have hsn : ∀ u, st u ≤ updB st (dst l x) r u := fun u => by have := hst u; unfold updB; split <;> omega
  have hone : ∀ {u b : Nat}, u ≠ dst l x → u = b → (py b).1 < l.length → 0 < rm l f (py b) → dst l (py b) = b → st b ≠ 0 → d (src l (py b)) + cst l (py b) ≤ d b → st b ≤ st (src l (py b)) + 1 → d (src l (py b)) < far → Chn l f (updB st (dst l x) r) (updB d (dst l x) (d (src l x) + cst l x)) (updB py (dst l x) x) (src l (py b)) → Chn l f (updB st (dst l x) r) (updB d (dst l x) (d (src l x) + cst l x)) (updB py (dst l x) x) b := fun {u b} hu e h1 h2 h3 h4 h5 h7 h8 h6 => by
    subst e
    have e1 := hpo u hu
    have e2 := hso u hu
    have g1 := hdn (src l (py u))
    have g2 := hsn (src l (py u))
    refine .step (by rw [e2]; exact h4) (by rw [e1]; exact h1) (by rw [e1]; exact h2) (by rw [e1]; exact h3) ?_ ?_ ?_ (by rw [e1]; exact h6)
    · rw [e1, hdo u hu]; omega
    · rw [e1, e2]; omega
    · rw [e1]; omega
  have key : ∀ u, Chn l f st d py u → d u - q u < d (dst l x) - q (dst l x) → Chn l f (updB st (dst l x) r) (updB d (dst l x) (d (src l x) + cst l x)) (updB py (dst l x) x) u := fun u hu => by
    induction hu with
    | @root b h => exact fun hlt2 => .root (by rw [hso b (fun e => by rw [e] at hlt2; omega)]; exact h)
    | @step b h4 h1 h2 h3 h5 h7' h8 _ ih =>
      intro hlt2
      have h7 := hP (py b) h1 h2
      rw [h3] at h7
      exact hone (u := b) (fun e => by rw [e] at hlt2; omega) rfl h1 h2 h3 h4 h5 h7' h8 (ih (by omega))
  have hA := key _ ha (by omega)
  have hnew : Chn l f (updB st (dst l x) r) (updB d (dst l x) (d (src l x) + cst l x)) (updB py (dst l x) x) (dst l x) := by
    have e1 : updB py (dst l x) x (dst l x) = x := if_pos rfl
    have e2 : updB st (dst l x) r (dst l x) = r := if_pos rfl
    refine .step (by rw [e2]; exact hr0) (by rw [e1]; exact hx) (by rw [e1]; exact hr) (by rw [e1]) ?_ ?_ ?_ (by rw [e1]; exact hA)
    · rw [e1, hdo _ hne]
      show _ ≤ updB d (dst l x) _ (dst l x)
      unfold updB
      rw [if_pos rfl]
      exact Int.le_refl _
    · rw [e1, e2, hso _ hne]; exact hsa
    · rw [e1, hdo _ hne]; exact hfa
  induction hv with
  | @root b h =>
    by_cases e : b = dst l x
    · rw [e]; exact hnew
    · exact .root (by rw [hso b e]; exact h)
  | @step b h4 h1 h2 h3 h5 h7' h8 _ ih =>
    by_cases e : b = dst l x
    · rw [e]; exact hnew
    · exact hone (u := b) e rfl h1 h2 h3 h4 h5 h7' h8 ih
end
/-! ## relax: the rows -/
structure FS where
  d : Nat → Int
  py : Nat → Stp
  bt : Bool
def fcond (l : List Arc) (f : Nat → Int) (S : FS) (x : Stp) : Prop := 0 < rm l f x ∧ S.d (src l x) < far ∧ S.d (src l x) + cst l x < S.d (dst l x)
instance (l : List Arc) (f : Nat → Int) (S : FS) (x : Stp) : Decidable (fcond l f S x) := by unfold fcond; infer_instance
def fstp (l : List Arc) (f : Nat → Int) (S : FS) (x : Stp) : FS := if fcond l f S x then ⟨updB S.d (dst l x) (S.d (src l x) + cst l x), updB S.py (dst l x) x, true⟩ else S
def kst (k : Nat) : Stp := (k / 2, k % 2 == 1)
def fsw (l : List Arc) (f : Nat → Int) (S : FS) : Nat → FS
  | 0 => S
  | k + 1 => fstp l f (fsw l f S k) (kst k)
def fbeg (S : FS) : FS := ⟨S.d, S.py, false⟩
def fit (l : List Arc) (f : Nat → Int) (S : FS) : Nat → FS
  | 0 => S
  | r + 1 => fsw l f (fbeg (fit l f S r)) (2 * l.length)
/-- bounds -/
def FBd (M : Int) (S : FS) : Prop := ∀ i, S.d i = far ∨ (-M ≤ S.d i ∧ S.d i ≤ M)
section
variable {N s t : Nat} {l : List Arc} {f q : Nat → Int}
theorem cst_bd (hn : NOk N l) {x : Stp} (hx : x.1 < l.length) : -1048576 ≤ cst l x ∧ cst l x ≤ 1048576 := by
  obtain ⟨h1, h2, h3, h4, h5, h6, h7, h8, h9⟩ := hn.ok _ (aat_mem hx)
  unfold cst feA
  split <;> omega
theorem kst_lt {k m : Nat} (h : k < 2 * m) : (kst k).1 < m := by show k / 2 < m; omega
theorem kst_all {m : Nat} {x : Stp} (hx : x.1 < m) : ∃ k, k < 2 * m ∧ kst k = x := by
  obtain ⟨j, b⟩ := x
  dsimp only at hx
  cases b
  · exact ⟨2 * j, by omega, by unfold kst; rw [show 2 * j / 2 = j by omega, show 2 * j % 2 = 0 by omega]; rfl⟩
  · exact ⟨2 * j + 1, by omega, by unfold kst; rw [show (2 * j + 1) / 2 = j by omega, show (2 * j + 1) % 2 = 1 by omega]; rfl⟩
theorem FBd.step (hn : NOk N l) {M : Int} {S : FS} {x : Stp} (hx : x.1 < l.length) (h : FBd M S) : FBd (M + 1048576) (fstp l f S x) := by
  intro i
  have hc := cst_bd hn hx
  unfold fstp
  split
  · rename_i hh
    show updB S.d (dst l x) _ i = far ∨ _ ≤ updB S.d (dst l x) _ i ∧ updB S.d (dst l x) _ i ≤ _
    by_cases e : i = dst l x
    · subst e
      rw [updB_same]
      rcases h (src l x) with h1 | h1
      · have := hh.2.1; omega
      · right; omega
    · rw [updB_other _ _ e]
      rcases h i with h1 | h1
      · exact .inl h1
      · right; omega
  · rcases h i with h1 | h1
    · exact .inl h1
    · right; omega
theorem FBd.sweep (hn : NOk N l) {M : Int} {S : FS} (h : FBd M S) : ∀ k, k ≤ 2 * l.length → FBd (M + k * 1048576) (fsw l f S k)
  | 0, _ => by rw [show M + ((0 : Nat) : Int) * 1048576 = M by simp]; exact h
  | k + 1, hk => by
    have := (FBd.sweep hn h k (by omega)).step (f := f) hn (x := kst k) (kst_lt (by omega))
    rw [show M + ((k + 1 : Nat) : Int) * 1048576 = M + k * 1048576 + 1048576 by omega]
    exact this
theorem FBd.rounds (hn : NOk N l) {S : FS} (h : FBd 0 S) : ∀ r : Nat, FBd ((r : Int) * (2 * l.length * 1048576)) (fit l f S r)
  | 0 => by rw [show (((0 : Nat) : Int)) * (2 * l.length * 1048576) = 0 by simp]; exact h
  | r + 1 => by
    have h1 : FBd ((r : Int) * (2 * l.length * 1048576)) (fbeg (fit l f S r)) := FBd.rounds hn h r
    have := h1.sweep (f := f) hn (2 * l.length) (Nat.le_refl _)
    have e : (((r + 1 : Nat) : Int)) * (2 * l.length * 1048576) = r * (2 * l.length * 1048576) + (2 * l.length : Nat) * 1048576 := by
      rw [Int.natCast_add, Int.add_mul]; omega
    rw [e]; exact this
/- where nothing gets better -/
theorem fstp_true {S : FS} {x : Stp} (h : S.bt = true) : (fstp l f S x).bt = true := by
  unfold fstp; split
  · rfl
  · exact h
theorem fstp_still {S : FS} {x : Stp} (h : (fstp l f S x).bt = false) : fstp l f S x = S ∧ ¬ fcond l f S x := by
  unfold fstp at h ⊢
  split
  · rename_i hh; rw [if_pos hh] at h; cases h
  · rename_i hh; exact ⟨rfl, hh⟩
theorem fsw_still {S : FS} : ∀ k, (fsw l f S k).bt = false → fsw l f S k = S ∧ ∀ j, j < k → ¬ fcond l f S (kst j)
  | 0, _ => ⟨rfl, fun j hj => by omega⟩
  | k + 1, h => by
    obtain ⟨e1, e2⟩ := fstp_still (show (fstp l f (fsw l f S k) (kst k)).bt = false from h)
    have h2 : (fsw l f S k).bt = false := by rw [← e1]; exact h
    obtain ⟨e3, e4⟩ := fsw_still k h2
    refine ⟨by rw [fsw, e1, e3], fun j hj => ?_⟩
    by_cases e : j = k
    · subst e; rw [e3] at e2; exact e2
    · exact e4 j (by omega)
/-- nothing got better in the last round: no step leads cheaper -/
theorem fit_still {S : FS} {r : Nat} (hr : 0 < r) (h : (fit l f S r).bt = false) : ∀ x : Stp, x.1 < l.length → 0 < rm l f x → (fit l f S r).d (src l x) < far → (fit l f S r).d (dst l x) ≤ (fit l f S r).d (src l x) + cst l x := by
  obtain ⟨r, rfl⟩ : ∃ k, r = k + 1 := ⟨r - 1, by omega⟩
  obtain ⟨e1, e2⟩ := fsw_still _ (show (fsw l f (fbeg (fit l f S r)) (2 * l.length)).bt = false from h)
  intro x hx hrm hf
  rw [fit, e1] at hf ⊢
  obtain ⟨k, hk, rfl⟩ := kst_all hx
  have := e2 k hk
  unfold fcond at this
  omega
/- the rounds, when there are potentials -/
structure RI (N : Nat) (l : List Arc) (f d0 : Nat → Int) (r pre : Nat) (S : FS) (st : Nat → Nat) : Prop where
  le : ∀ u, st u ≤ r
  bt : S.bt = true → ∃ u, u < N ∧ st u = r
  ch : ∀ u, Chn l f st S.d S.py u
  rg : ∀ u, st u ≠ 0 → u < N ∧ S.d u < far
  mx : ∀ u, S.d u ≤ far
  old : ∀ x : Stp, x.1 < l.length → 0 < rm l f x → S.d (src l x) < far → st (src l x) + 1 < r → S.d (dst l x) ≤ S.d (src l x) + cst l x
  new : ∀ k, k < pre → k < 2 * l.length → 0 < rm l f (kst k) → S.d (src l (kst k)) < far → st (src l (kst k)) < r → S.d (dst l (kst k)) ≤ S.d (src l (kst k)) + cst l (kst k)
  same : ∀ u, st u = 0 → S.d u = d0 u
theorem dst_lt (hn : NOk N l) {x : Stp} (hx : x.1 < l.length) : dst l x < N ∧ src l x < N := by
  have := hn.at hx
  unfold dst src
  split <;> exact ⟨by omega, by omega⟩
theorem RI.step {d0 : Nat → Int} (hn : NOk N l) (hP : Pt l f q) {r pre : Nat} {S : FS} {st : Nat → Nat} (h : RI N l f d0 r pre S st) (hr : r ≠ 0) (hp : pre < 2 * l.length) : ∃ st', RI N l f d0 r (pre + 1) (fstp l f S (kst pre)) st' := by
  have hx := kst_lt hp
  generalize hxx : kst pre = x at *
  unfold fstp
  by_cases hc : fcond l f S x
  · rw [if_pos hc]
    obtain ⟨c1, c2, c3⟩ := hc
    have hq := hP x hx c1
    have hne : src l x ≠ dst l x := fun e => by have := hn.at hx; unfold src dst at e; split at e <;> omega
    have hsa : r ≤ st (src l x) + 1 := by
      have := h.old x hx c1 c2
      omega
    obtain ⟨g1, g2⟩ := dst_lt hn hx
    have hmx := h.mx (dst l x)
    have hdn : ∀ u, updB S.d (dst l x) (S.d (src l x) + cst l x) u ≤ S.d u := fun u => by unfold updB; split <;> (try subst u) <;> omega
    have rel : ∀ y : Stp, updB S.d (dst l x) (S.d (src l x) + cst l x) (src l y) < far → updB st (dst l x) r (src l y) < r → (S.d (src l y) < far → S.d (dst l y) ≤ S.d (src l y) + cst l y) → updB S.d (dst l x) (S.d (src l x) + cst l x) (dst l y) ≤ updB S.d (dst l x) (S.d (src l x) + cst l x) (src l y) + cst l y := fun y h1 h2 h3 => by
      have e : src l y ≠ dst l x := fun e => by rw [e, updB_same] at h2; omega
      rw [updB_other _ _ e] at h1 ⊢
      have := hdn (dst l y)
      have := h3 h1
      omega
    have stl : ∀ u, st u ≤ updB st (dst l x) r u := fun u => by have := h.le u; unfold updB; split <;> omega
    refine ⟨updB st (dst l x) r, ?_, fun _ => ⟨dst l x, g1, updB_same _ _ _⟩, fun u => Chn.upd hP hx c1 c3 c2 hr h.le hsa (h.ch _) (h.ch u), ?_, ?_, ?_, ?_, ?_⟩
    · intro u
      have := h.le u
      unfold updB; split <;> omega
    · intro u hu
      by_cases e : u = dst l x
      · subst e; exact ⟨g1, by show updB _ _ _ _ < _; rw [updB_same]; omega⟩
      · rw [updB_other _ _ e] at hu
        exact ⟨(h.rg u hu).1, by show updB _ _ _ _ < _; rw [updB_other _ _ e]; exact (h.rg u hu).2⟩
    · intro u
      have := h.mx u
      have := hdn u
      show updB _ _ _ _ ≤ _
      omega
    · intro y hy hry h1 h2
      have := stl (src l y)
      exact rel y h1 (by omega) fun h3 => h.old y hy hry h3 (by omega)
    · intro k hk hk2 hrk h1 h2
      have := stl (src l (kst k))
      by_cases e : k = pre
      · subst e
        rw [hxx] at h1 h2 ⊢
        show updB _ _ _ _ ≤ updB _ _ _ _ + _
        rw [updB_other _ _ hne, updB_same]
        exact Int.le_refl _
      · exact rel (kst k) h1 h2 fun h3 => h.new k (by omega) hk2 hrk h3 (by omega)
    · intro u hu
      have e : u ≠ dst l x := fun e => by rw [e, updB_same] at hu; exact hr hu
      show updB _ _ _ _ = _
      rw [updB_other _ _ e] at hu ⊢
      exact h.same u hu
  · rw [if_neg hc]
    refine ⟨st, h.le, h.bt, h.ch, h.rg, h.mx, h.old, ?_, h.same⟩
    intro k hk hk2 hrk h1 h2
    by_cases e : k = pre
    · subst e
      rw [hxx] at hrk h1 h2 ⊢
      unfold fcond at hc
      omega
    · exact h.new k (by omega) hk2 hrk h1 h2
theorem RI.sweep {d0 : Nat → Int} (hn : NOk N l) (hP : Pt l f q) {r : Nat} {S : FS} {st : Nat → Nat} (h : RI N l f d0 r 0 S st) (hr : r ≠ 0) : ∀ k, k ≤ 2 * l.length → ∃ st', RI N l f d0 r k (fsw l f S k) st'
  | 0, _ => ⟨st, h⟩
  | k + 1, hk => by
    obtain ⟨st', h'⟩ := RI.sweep hn hP h hr k (by omega)
    exact h'.step hn hP hr (by omega)
theorem RI.rounds {d0 : Nat → Int} (hn : NOk N l) (hP : Pt l f q) {S : FS} (h0 : S.d = d0) (hmx : ∀ u, d0 u ≤ far) (hb : S.bt = false) : ∀ r, ∃ st, RI N l f d0 r (2 * l.length) (fit l f S r) st
  | 0 => ⟨fun _ => 0, ⟨fun _ => Nat.le_refl _, (fun h => by rw [fit, hb] at h; cases h), fun u => .root rfl, fun u h => absurd rfl h, fun u => by rw [fit, h0]; exact hmx u, fun x _ _ _ h => absurd h (by omega), fun k _ _ _ _ h => absurd h (by omega), fun u _ => by rw [fit, h0]⟩⟩
  | r + 1 => by
    obtain ⟨st, h⟩ := RI.rounds hn hP h0 hmx hb r
    refine RI.sweep hn hP (S := fbeg (fit l f S r)) (st := st) ?_ (by omega) _ (Nat.le_refl _)
    refine ⟨fun u => Nat.le_succ_of_le (h.le u), (fun h => by cases h), h.ch, h.rg, h.mx, ?_, fun k hk => by omega, h.same⟩
    intro x hx hr h1 h2
    obtain ⟨k, hk, rfl⟩ := kst_all hx
    exact h.new k hk hk hr h1 (by omega)
/- how far from the root -/
def Lv (l : List Arc) (st : Nat → Nat) (py : Nat → Stp) : Nat → Nat → Prop
  | 0, b => st b = 0
  | n + 1, b => st b ≠ 0 ∧ Lv l st py n (src l (py b))
theorem Lv.uniq {st : Nat → Nat} {py : Nat → Stp} : ∀ {n m b : Nat}, Lv l st py n b → Lv l st py m b → n = m
  | 0, 0, _, _, _ => rfl
  | 0, _ + 1, _, h, h' => absurd h h'.1
  | _ + 1, 0, _, h, h' => absurd h' h.1
  | n + 1, m + 1, _, h, h' => by rw [Lv.uniq h.2 h'.2]
theorem Chn.lv {st : Nat → Nat} {d : Nat → Int} {py : Nat → Stp} {b : Nat} (h : Chn l f st d py b) : ∃ n, Lv l st py n b ∧ st b ≤ n := by
  induction h with
  | @root b h => exact ⟨0, h, by omega⟩
  | @step b hb _ _ _ _ hs _ _ ih =>
    obtain ⟨n, h1, h2⟩ := ih
    exact ⟨n + 1, ⟨hb, h1⟩, by omega⟩
/-- the nodes of a chain, from its root on -/
theorem Chn.path (hn : NOk N l) {st : Nat → Nat} {d : Nat → Int} {py : Nat → Stp} {b : Nat} (h : Chn l f st d py b) (hb : b < N) : ∃ (n : Nat) (vis : List Nat), Lv l st py n b ∧ vis.length = n + 1 ∧ vis[n]? = some b ∧ vis.Nodup ∧ (∀ i u, vis[i]? = some u → Lv l st py i u ∧ u < N ∧ Chn l f st d py u) ∧ ∀ i u, vis[i + 1]? = some u → vis[i]? = some (src l (py u)) := by
  induction h with
  | @root b h => exact ⟨0, [b], h, rfl, rfl, by simp, fun i u hi => by
      cases i with
      | zero => simp at hi; subst hi; exact ⟨h, hb, .root h⟩
      | succ i => simp at hi, fun i u hi => by simp at hi⟩
  | @step b hb' hx hr hd hle hs hf h ih =>
    obtain ⟨n, vis, h1, h2, h3, h4, h5, h6⟩ := ih (dst_lt hn hx).2
    have hlv : Lv l st py (n + 1) b := ⟨hb', h1⟩
    refine ⟨n + 1, vis ++ [b], hlv, by simp [h2], ?_, ?_, ?_, ?_⟩
    · rw [← h2, List.getElem?_append_right (Nat.le_refl _)]; simp
    · rw [List.nodup_append]
      refine ⟨h4, by simp, fun a ha c hc e => ?_⟩
      rw [List.mem_singleton] at hc
      subst hc; subst e
      obtain ⟨i, hi, e⟩ := List.mem_iff_getElem.1 ha
      have h7 := (h5 i a (by rw [List.getElem?_eq_getElem hi, e])).1
      have := h7.uniq hlv
      omega
    · intro i u hi
      by_cases e : i < vis.length
      · rw [List.getElem?_append_left e] at hi; exact h5 i u hi
      · rw [List.getElem?_append_right (by omega)] at hi
        have e2 : i - vis.length = 0 := by
          have := (List.getElem?_eq_some_iff.1 hi).1
          simp at this; omega
        rw [e2] at hi
        simp at hi; subst hi
        rw [show i = n + 1 by omega]
        exact ⟨hlv, hb, .step hb' hx hr hd hle hs hf h⟩
    · intro i u hi
      by_cases e : i + 1 < vis.length
      · rw [List.getElem?_append_left e] at hi
        rw [List.getElem?_append_left (by omega)]
        exact h6 i u hi
      · rw [List.getElem?_append_right (by omega)] at hi
        have e2 : i + 1 - vis.length = 0 := by
          have := (List.getElem?_eq_some_iff.1 hi).1
          simp at this; omega
        rw [e2] at hi
        simp at hi; subst hi
        rw [List.getElem?_append_left (by omega), show i = n by omega]
        exact h3
theorem nodup_le {vis : List Nat} (h : vis.Nodup) (hN : ∀ u ∈ vis, u < N) : vis.length ≤ N := by
  have := h.length_le_of_subset (l₂ := List.range N) fun v hv => List.mem_range.2 (hN v hv)
  simpa using this
/-- when there are potentials, nothing gets better in a round as late as there are nodes -/
theorem fit_end (hn : NOk N l) (hP : Pt l f q) {S : FS} (hmx : ∀ u, S.d u ≤ far) (hb : S.bt = false) {r : Nat} (hr : N ≤ r) : (fit l f S r).bt = false := by
  obtain ⟨st, h⟩ := RI.rounds (d0 := S.d) hn hP rfl hmx hb r
  cases hbt : (fit l f S r).bt
  · rfl
  · obtain ⟨u, hu, he⟩ := h.bt hbt
    obtain ⟨n, vis, h1, h2, _, h4, h5, _⟩ := (h.ch u).path hn hu
    obtain ⟨n', h6, h7⟩ := (h.ch u).lv
    have := h1.uniq h6
    have := nodup_le h4 (N := N) fun v hv => by
      obtain ⟨i, hi, e⟩ := List.mem_iff_getElem.1 hv
      exact (h5 i v (by rw [List.getElem?_eq_getElem hi, e])).2.1
    omega
end
end Go.Proofs.Ytgengjneccpaiaa
