/- fee: what the cheapest way does to a flow and its potentials. No program in sight. -/
import Derived.Test.YtgengjneccpaiaaFeePot
namespace Go.Proofs.Ytgengjneccpaiaa
open Go.RowKit

/-- the nodes from s on to t, each by its last step, which is tight -/
structure Back (N : Nat) (l : List Arc) (f : Nat → Int) (s t : Nat) (d : Nat → Int) (py : Nat → Stp) (vis : List Nat) : Prop where
  hd : vis[0]? = some s
  lst : vis[vis.length - 1]? = some t
  nd : vis.Nodup
  rg : ∀ u ∈ vis, u < N
  st : ∀ i u, vis[i + 1]? = some u → (py u).1 < l.length ∧ 0 < rm l f (py u) ∧ dst l (py u) = u ∧ vis[i]? = some (src l (py u)) ∧ d u = d (src l (py u)) + cst l (py u) ∧ d (src l (py u)) < far
section
variable {N s t : Nat} {l : List Arc} {f g q : Nat → Int} {u v : Int}
def dOne (s : Nat) : Nat → Int := fun i => if i = s then 0 else far
theorem fit_mx : ∀ {S : FS}, (∀ u, S.d u ≤ far) → ∀ r u, (fit l f S r).d u ≤ far := by
  have one : ∀ {S : FS} {x : Stp}, (∀ u, S.d u ≤ far) → ∀ u, (fstp l f S x).d u ≤ far := fun {S x} h u => by
    unfold fstp
    split
    · rename_i hh
      show updB _ _ _ _ ≤ far
      unfold updB
      split
      · have := hh.2.2; have := h (dst l x); omega
      · exact h u
    · exact h u
  have sw : ∀ {S : FS}, (∀ u, S.d u ≤ far) → ∀ k u, (fsw l f S k).d u ≤ far := fun {S} h k => by
    induction k with
    | zero => exact h
    | succ k ih => exact one ih
  intro S h r
  induction r with
  | zero => exact h
  | succ r ih => exact sw (S := fbeg (fit l f S r)) ih _
theorem fit_bt {S : FS} (hn : NOk N l) (hP : Pt l f q) (hmx : ∀ u, S.d u ≤ far) (hb : S.bt = false) {r : Nat} (h : (fit l f S r).bt = true → N ≤ r) : (fit l f S r).bt = false := by
  cases e : (fit l f S r).bt
  · rfl
  · rw [fit_end hn hP hmx hb (h e)] at e; cases e
/-- from one source -/
theorem from_one (hn : NOk N l) (hP : Pt l f q) (hs : s < N) {py0 : Nat → Stp} {r : Nat} (hr : 0 < r) (h : (fit l f ⟨dOne s, py0, false⟩ r).bt = true → N ≤ r) :
    (fit l f ⟨dOne s, py0, false⟩ r).d s = 0 ∧ (∀ x : Stp, x.1 < l.length → 0 < rm l f x → (fit l f ⟨dOne s, py0, false⟩ r).d (src l x) < far → (fit l f ⟨dOne s, py0, false⟩ r).d (dst l x) ≤ (fit l f ⟨dOne s, py0, false⟩ r).d (src l x) + cst l x) ∧
    (∀ v, (fit l f ⟨dOne s, py0, false⟩ r).d v < far → q v - q s ≤ (fit l f ⟨dOne s, py0, false⟩ r).d v) ∧
    ∀ t, t < N → (fit l f ⟨dOne s, py0, false⟩ r).d t < far → ∃ vis, Back N l f s t (fit l f ⟨dOne s, py0, false⟩ r).d (fit l f ⟨dOne s, py0, false⟩ r).py vis := by
  have hmx : ∀ u, dOne s u ≤ far := fun u => by unfold dOne far; split <;> omega
  have hb := fit_bt (S := ⟨dOne s, py0, false⟩) hn hP hmx rfl h
  have hst := fit_still hr hb
  obtain ⟨st, hR⟩ := RI.rounds (d0 := dOne s) (S := ⟨dOne s, py0, false⟩) hn hP rfl hmx rfl r
  generalize fit l f ⟨dOne s, py0, false⟩ r = S at *
  have root : ∀ u, st u = 0 → S.d u < far → u = s := fun u h1 h2 => by
    rw [hR.same u h1] at h2
    unfold dOne at h2
    split at h2
    · assumption
    · omega
  have hs0 : st s = 0 := by
    refine Classical.byContradiction fun hne => ?_
    obtain ⟨n, vis, h1, h2, h3, h4, h5, h6⟩ := (hR.ch s).path hn hs
    cases n with
    | zero => exact hne h1
    | succ n =>
      have hv1 : ∃ u, vis[0 + 1]? = some u := ⟨vis[1]'(by omega), List.getElem?_eq_getElem (by omega)⟩
      obtain ⟨u, hu⟩ := hv1
      have e0 := h6 0 u hu
      have g1 := h5 1 u hu
      have g0 := h5 0 _ e0
      have hlv0 : st (src l (S.py u)) = 0 := g0.1
      have hlv1 : st u ≠ 0 := g1.1.1
      rcases g1.2.2 with h | ⟨_, _, _, _, _, _, hf, _⟩
      · exact hlv1 h
      · have := root _ hlv0 hf
        rw [this] at hlv0
        exact hne hlv0
  refine ⟨by rw [hR.same s hs0]; exact if_pos rfl, hst, ?_, ?_⟩
  · intro v hv
    have hch := hR.ch v
    induction hch with
    | @root b h =>
      have := root b h hv
      subst this
      rw [hR.same _ h]
      unfold dOne
      rw [if_pos rfl]; omega
    | @step b hb hx hr hd hle hs hf _ ih =>
      have h1 := ih hf
      have h2 := hP _ hx hr
      rw [hd] at h2
      omega
  · intro t ht hf
    obtain ⟨n, vis, h1, h2, h3, h4, h5, h6⟩ := (hR.ch t).path hn ht
    have hstep : ∀ i u, vis[i + 1]? = some u → (S.py u).1 < l.length ∧ 0 < rm l f (S.py u) ∧ dst l (S.py u) = u ∧ vis[i]? = some (src l (S.py u)) ∧ S.d u = S.d (src l (S.py u)) + cst l (S.py u) ∧ S.d (src l (S.py u)) < far := by
      intro i u hu
      have g1 := h5 (i + 1) u hu
      rcases g1.2.2 with h | ⟨_, hx, hrm, hd, hle, _, hf, _⟩
      · exact absurd h g1.1.1
      · refine ⟨hx, hrm, hd, h6 i u hu, ?_, hf⟩
        have := hst _ hx hrm hf
        rw [hd] at this
        omega
    refine ⟨vis, ?_, ?_, h4, ?_, fun i u hu => ?_⟩
    · have hv0 : ∃ u, vis[0]? = some u := ⟨vis[0]'(by omega), List.getElem?_eq_getElem (by omega)⟩
      obtain ⟨u, hu⟩ := hv0
      rw [hu]
      have g0 : st u = 0 := (h5 0 u hu).1
      cases n with
      | zero =>
        rw [h3] at hu
        injection hu with hu
        subst hu
        rw [root _ g0 hf]
      | succ n =>
        have hv1 : ∃ u, vis[0 + 1]? = some u := ⟨vis[1]'(by omega), List.getElem?_eq_getElem (by omega)⟩
        obtain ⟨u1, hu1⟩ := hv1
        obtain ⟨_, _, _, e, _, hf1⟩ := hstep 0 u1 hu1
        rw [hu] at e
        injection e with e
        rw [e] at g0 ⊢
        rw [root _ g0 hf1]
    · rw [h2]; exact h3
    · intro u hu
      obtain ⟨i, hi, e⟩ := List.mem_iff_getElem.1 hu
      exact (h5 i u (by rw [List.getElem?_eq_getElem hi, e])).2.1
    · exact hstep i u hu
/-- where t is not come to, nothing more goes -/
theorem no_more (hn : NOk N l) (hs : s < N) (hf : FL N l s t f v) {d : Nat → Int} (h0 : d s < far) (ht : ¬ d t < far) (hst : ∀ x : Stp, x.1 < l.length → 0 < rm l f x → d (src l x) < far → d (dst l x) < far) : ∀ {g : Nat → Int} {u : Int}, FL N l s t g u → u ≤ v := by
  intro g u hg
  have h1 := hg.le hn (S := fun u => decide (d u < far)) (by simpa using h0) (by simpa using ht) hs
  have h2 := hf.sumS hn (S := fun u => decide (d u < far)) (by simpa using h0) (by simpa using ht) hs
  rw [← h2]
  refine Int.le_trans h1 (Int.le_of_eq ?_)
  unfold capS exS
  refine sm_congr fun k hk => ?_
  have hb := hf.ok k hk
  have c0 := hst (k, false) hk
  have c1 := hst (k, true) hk
  simp only [src, dst, rm, Bool.false_eq_true, if_false, if_true] at c0 c1
  by_cases h1 : d (fr l k) < far
  · by_cases h2 : d (tn l k) < far
    · simp [h1, h2]
    · have : ¬ (0 < mo l k - f k) := fun h3 => h2 (c0 h3 h1)
      simp [h1, h2]; omega
  · by_cases h2 : d (tn l k) < far
    · have : ¬ (0 < f k) := fun h3 => h1 (c1 h3 h2)
      simp [h1, h2]; omega
    · simp [h1, h2]
theorem cost_psh {x : Stp} (hx : x.1 < l.length) (f : Nat → Int) (c : Int) : costF l (psh f c x) = costF l f + c * cst l x := by
  unfold costF
  rw [sm_upd (fun k => f k * feA l k) (fun k => psh f c x k * feA l k) x.1 (c * cst l x) ?_ ?_ l.length, if_pos hx]
  · unfold psh cst
    rw [if_pos rfl]
    split
    · rw [Int.sub_mul, Int.mul_neg]; omega
    · rw [Int.add_mul]
  · intro k hk
    unfold psh
    rw [if_neg hk]
theorem Wy.cost {vis : List Nat} {c c' : Int} {ws : List Stp} {a : Nat} {d : Nat → Int} (h : Wy l f vis t c ws a) (hT : ∀ y ∈ ws, d (dst l y) = d (src l y) + cst l y) : costF l (pshs f c' ws) = costF l f + c' * (d t - d a) := by
  induction h with
  | nil => rw [Int.sub_self, Int.mul_zero]; show costF l f = _; omega
  | @snoc w a' x i j h hx hr hd hi hj hji ih =>
    rw [pshs_snoc, cost_psh hx, ih fun y hy => hT y (List.mem_append_left _ hy)]
    have := hT x (by simp)
    rw [hd] at this
    rw [Int.add_assoc, ← Int.mul_add]
    congr 2
    omega
theorem costF_bd (hn : NOk N l) (hf : FOk l f) : -(l.length * 1099511627776) ≤ costF l f ∧ costF l f ≤ l.length * 1099511627776 := by
  have key : ∀ k, k < l.length → -1099511627776 ≤ f k * feA l k ∧ f k * feA l k ≤ 1099511627776 := fun k hk => by
    have h1 := hf k hk
    have h2 := (hn.at hk).2.2.2.2.1
    have h3 := cst_bd hn (x := (k, false)) hk
    have e : cst l (k, false) = feA l k := rfl
    rw [e] at h3
    have a := Int.mul_le_mul_of_nonneg_left h3.2 h1.1
    have b := Int.mul_le_mul_of_nonneg_left h3.1 h1.1
    omega
  have sc : ∀ (M : Int) n, sm n (fun _ => M) = n * M := fun M n => by
    induction n with
    | zero => simp [sm]
    | succ n ih => rw [sm, ih, Int.natCast_add, Int.add_mul]; simp
  constructor
  · have := sm_le (g := fun _ => -1099511627776) (h := fun k => f k * feA l k) (n := l.length) fun k hk => (key k hk).1
    rw [sc] at this
    unfold costF; omega
  · have := sm_le (h := fun _ => 1099511627776) (g := fun k => f k * feA l k) (n := l.length) fun k hk => (key k hk).2
    rw [sc] at this
    unfold costF; omega
/-- a flow as cheap as can be -/
structure Chp (N : Nat) (l : List Arc) (s t : Nat) (f : Nat → Int) (v : Int) : Prop where
  fl : FL N l s t f v
  pt : ∃ q, Pt l f q ∧ 0 ≤ q t - q s
theorem FL.zeroF (hn : NOk N l) : FL N l s t (fun _ => 0) 0 := by
  have ez : ∀ v, ex l (fun _ => 0) v = 0 := fun v => by
    unfold ex
    rw [← sm_zero l.length]
    exact sm_congr fun k _ => by simp
  exact ⟨fun k hk => ⟨Int.le_refl _, (hn.at hk).2.2.2.1⟩, fun u _ _ _ => ez u, ez s⟩
theorem Chp.zero (hn : NOk N l) (h0 : ∀ k, k < l.length → 0 ≤ feA l k) : Chp N l s t (fun _ => 0) 0 :=
  ⟨FL.zeroF hn, fun _ => 0, fun x hx hr => by
    obtain ⟨k, b⟩ := x
    cases b
    · show (0 : Int) ≤ 0 + feA l k; have := h0 k hx; omega
    · exact absurd hr (by show ¬ (0 : Int) < 0; omega), Int.le_refl _⟩
/-- the push along the cheapest way -/
theorem Chp.push (hn : NOk N l) (hst : s ≠ t) (h : Chp N l s t f v) (hs : s < N) {py0 : Nat → Stp} {r : Nat} (hr : 0 < r) (hr2 : r ≤ 64) (hl : l.length ≤ 64) (hbt : (fit l f ⟨dOne s, py0, false⟩ r).bt = true → N ≤ r) (hft : (fit l f ⟨dOne s, py0, false⟩ r).d t < far)
    {vis : List Nat} (hB : Back N l f s t (fit l f ⟨dOne s, py0, false⟩ r).d (fit l f ⟨dOne s, py0, false⟩ r).py vis) {c : Int} (hc : 0 ≤ c) {ws : List Stp} (hW : Wy l f vis t c ws s) (hT : ∀ y ∈ ws, ∃ i u, vis[i + 1]? = some u ∧ y = (fit l f ⟨dOne s, py0, false⟩ r).py u) :
    Chp N l s t (pshs f c ws) (v + c) ∧ costF l (pshs f c ws) = costF l f + c * (fit l f ⟨dOne s, py0, false⟩ r).d t := by
  obtain ⟨q, hP, hq⟩ := h.pt
  obtain ⟨g1, g2, g3, _⟩ := from_one hn hP hs hr hbt
  have hbdF : FBd (r * (2 * l.length * 1048576)) (fit l f ⟨dOne s, py0, false⟩ r) := FBd.rounds hn (fun i => by show dOne s i = far ∨ _ ≤ dOne s i ∧ dOne s i ≤ _; unfold dOne; split <;> omega) r
  generalize fit l f ⟨dOne s, py0, false⟩ r = S at *
  have tight : ∀ y ∈ ws, S.d (dst l y) = S.d (src l y) + cst l y ∧ S.d (src l y) < far ∧ y.1 < l.length ∧ 0 < rm l f y := by
    intro y hy
    obtain ⟨i, u, hu, rfl⟩ := hT y hy
    obtain ⟨a, b, cc, dd, ee, ff⟩ := hB.st i u hu
    exact ⟨by rw [cc]; exact ee, ff, a, b⟩
  have hM : (r : Int) * (2 * l.length * 1048576) ≤ 64 * (2 * 64 * 1048576) := Int.mul_le_mul (by omega) (by omega) (by omega) (by omega)
  have reach : ∀ x : Stp, x.1 < l.length → 0 < rm l f x → S.d (src l x) < far → S.d (dst l x) < far := fun x hx hrm hf => by
    have h1 := g2 x hx hrm hf
    have h2 := cst_bd hn hx
    have e : far = 1152921504606846976 := rfl
    rcases hbdF (src l x) with h3 | h3 <;> omega
  obtain ⟨q', hP', hq'⟩ := hP.next (d := S.d) (R := fun u => decide (S.d u < far)) fun x hx hrm hf => by
    have hf : S.d (src l x) < far := by simpa using hf
    exact ⟨by simpa using reach x hx hrm hf, g2 x hx hrm hf⟩
  have hqd : ∀ u, S.d u < far → q' u = S.d u := fun u hu => hq' u (by simpa using hu)
  have hsf : S.d s < far := by rw [g1]; unfold far; omega
  refine ⟨⟨hW.push hn hB.nd h.fl hst hc, q', hP'.push hW hB.nd fun y hy => ?_, ?_⟩, ?_⟩
  · obtain ⟨a, b, c, d⟩ := tight y hy
    rw [hqd _ b, hqd _ (reach y c d b)]; exact a
  · rw [hqd t hft, hqd s hsf, g1]
    have := g3 t hft
    omega
  · rw [hW.cost (d := S.d) fun y hy => (tight y hy).1, g1, Int.sub_zero]
/-- where the end is not come to: no flow is greater -/
theorem Chp.none (hn : NOk N l) (h : Chp N l s t f v) (hs : s < N) {py0 : Nat → Stp} {r : Nat} (hr : 0 < r) (hr2 : r ≤ 64) (hl : l.length ≤ 64) (hbt : (fit l f ⟨dOne s, py0, false⟩ r).bt = true → N ≤ r) (hft : ¬ (fit l f ⟨dOne s, py0, false⟩ r).d t < far) : ∀ {g : Nat → Int} {u : Int}, FL N l s t g u → u ≤ v := by
  obtain ⟨q, hP, hq⟩ := h.pt
  obtain ⟨g1, g2, g3, _⟩ := from_one hn hP hs hr hbt
  have hbdF : FBd (r * (2 * l.length * 1048576)) (fit l f ⟨dOne s, py0, false⟩ r) := FBd.rounds hn (fun i => by show dOne s i = far ∨ _ ≤ dOne s i ∧ dOne s i ≤ _; unfold dOne; split <;> omega) r
  generalize fit l f ⟨dOne s, py0, false⟩ r = S at *
  have hM : (r : Int) * (2 * l.length * 1048576) ≤ 64 * (2 * 64 * 1048576) := Int.mul_le_mul (by omega) (by omega) (by omega) (by omega)
  intro g u
  refine no_more hn hs h.fl (by rw [g1]; unfold far; omega) hft fun x hx hrm hf => ?_
  have h1 := g2 x hx hrm hf
  have h2 := cst_bd hn hx
  have e : far = 1152921504606846976 := rfl
  rcases hbdF (src l x) with h3 | h3 <;> omega
end
end Go.Proofs.Ytgengjneccpaiaa
