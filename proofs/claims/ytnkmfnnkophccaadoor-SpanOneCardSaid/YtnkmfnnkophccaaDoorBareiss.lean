/- Bareiss' elimination: its steps divide without a rest, for its numbers are determinants. Plain. -/
import Derived.Test.YtnkmfnnkophccaaDoorExt
namespace Go.Proofs.YtnkmfnnkophccaaDoor

theorem cf_low2 {s b n : Nat} (hb : s < b) (hbn : b < n) {x y : Nat → Int} (hx : ∀ c, c < s → x c = 0) (hy : ∀ c, c < s → y c = 0) (w : Lm n) :
    cf n (fstb (s + 1) b) (wd n (wd n w x) y) = (x s * y b - x b * y s) * cf n (fst' s) w := by
  have hs1 : ∀ z : Lm n, cf n (fst' (s + 1)) z = cf n (fstb s s) z := fun z => cf_congr z fun j _ => by rw [Bool.eq_iff_iff]; simp [fst', fstb]; omega
  have key : ∀ (x : Nat → Int), (∀ c, c < s → x c = 0) → ∀ z : Lm n, wd n z x = lc n (x s) (wd n z fun c => if c = s then 1 else 0) 1 (wd n z fun c => if c = s then 0 else x c) := fun x _ z => by
    rw [← wd_lin]
    refine wd_congr z fun c _ => ?_
    by_cases e : c = s
    · subst e; simp
    · simp [e]
  have hv : ∀ (x : Nat → Int), (∀ c, c < s → x c = 0) → ∀ c, c < s + 1 → (fun c => if c = s then (0 : Int) else x c) c = 0 := fun x hx c hc => by
    by_cases e : c = s
    · simp [e]
    · simp [e, hx c (by omega)]
  have he : ∀ c, c < s → (fun c => if c = s then (1 : Int) else 0) c = 0 := fun c hc => by simp; omega
  have t1 := cf_lowb (show s + 1 ≤ b by omega) (hv y hy) (wd n w x)
  have hsn : s < n := by omega
  have hbs : ¬ b = s := by omega
  rw [if_pos hbn, hs1, cf_lowb (Nat.le_refl s) hx, if_pos hsn] at t1
  simp only [if_neg hbs] at t1
  have t2 := cf_lowb (show s + 1 ≤ b by omega) (hv x hx) (wd n w fun c => if c = s then 1 else 0)
  rw [if_pos hbn, hs1, cf_lowb (Nat.le_refl s) he, if_pos hsn] at t2
  simp only [if_neg hbs, if_true] at t2
  have t3 : cf n (fstb (s + 1) b) (wd n (wd n w fun c => if c = s then 1 else 0) x) = x b * (1 * cf n (fst' s) w) := by
    rw [key x hx, cf_lc, wd_alt, t2]; omega
  rw [key y hy, cf_lc, wd_anti, t3, t1]
  grind
def comb (α : Nat → Int) (r : Nat → Nat → Int) : Nat → Nat → Int
  | 0, _ => 0
  | s + 1, c => 1 * comb α r s c + α s * r s c
theorem wd_comb {n : Nat} {x : Lm n} {α : Nat → Int} {r : Nat → Nat → Int} : ∀ {s : Nat}, (∀ t, t < s → ∀ S, cf n S (wd n x (r t)) = 0) → ∀ S, cf n S (wd n x fun c => comb α r s c) = 0
  | 0, _, S => by
    have := wd_lin 0 0 (fun _ => 0) (fun _ => 0) x
    rw [wd_congr (w := fun c => 0 * (fun _ => (0 : Int)) c + 0 * (fun _ => (0 : Int)) c) x (fun c _ => by simp [comb]), this, cf_lc]; omega
  | s + 1, h, S => by
    show cf n S (wd n x fun c => 1 * comb α r s c + α s * r s c) = 0
    rw [wd_lin, cf_lc, wd_comb fun t ht => h t (by omega), h s (by omega)]; omega
theorem comb_lin (a b : Int) (α β : Nat → Int) (r : Nat → Nat → Int) (c : Nat) : ∀ s, comb (fun t => a * α t + b * β t) r s c = a * comb α r s c + b * comb β r s c
  | 0 => by simp [comb]
  | s + 1 => by
    simp only [comb]
    rw [comb_lin a b α β r c s]
    grind
theorem comb_congr {α β : Nat → Int} (r : Nat → Nat → Int) (c : Nat) : ∀ {s : Nat}, (∀ t, t < s → α t = β t) → comb α r s c = comb β r s c
  | 0, _ => rfl
  | s + 1, h => by
    simp only [comb]
    rw [comb_congr r c fun t ht => h t (by omega), h s (by omega)]
section
variable (k : Nat) (r : Nat → Nat → Int)
def Dt (s : Nat) : Int := cf k (fst' s) (ws k r s)
def Ph (s : Nat) (u : Nat → Int) (c : Nat) : Int := cf k (fstb s c) (wd k (ws k r s) u)
def Vt (s a b : Nat) : Int := Ph k r s (r a) b
def Vs (s : Nat) (u : Nat → Int) (c : Nat) : Int := if s ≤ c then Ph k r s u c else 0
theorem Dt_zero : Dt k r 0 = 1 := un_cf k
theorem Dt_succ (s : Nat) : Dt k r (s + 1) = Vt k r s s s := by
  unfold Dt Vt Ph
  show cf k _ (wd k (ws k r s) (r s)) = _
  exact cf_congr _ fun j _ => by rw [Bool.eq_iff_iff]; simp [fst', fstb]; omega
theorem Ph_zero (u : Nat → Int) {b : Nat} (hb : b < k) : Ph k r 0 u b = u b := by
  unfold Ph
  rw [cf_lowb (Nat.zero_le b) (fun c hc => absurd hc (by omega)), if_pos hb]
  show u b * cf k (fst' 0) (un k) = u b
  rw [un_cf, Int.mul_one]
def Dec (s : Nat) : Prop := ∀ u : Nat → Int, ∃ q : Int, q ≠ 0 ∧ ∃ α : Nat → Int, ∀ c, c < k → q * (Dt k r s * u c) = q * Vs k r s u c + comb α r s c
variable {k r}
theorem Dec.psi {s : Nat} (h : Dec k r s) (hD : Dt k r s ≠ 0) (u v : Nat → Int) {b : Nat} (hb : s < b) (hbk : b < k) :
    Dt k r s * cf k (fstb (s + 1) b) (wd k (wd k (ws k r s) u) v) = Ph k r s u s * Ph k r s v b - Ph k r s u b * Ph k r s v s := by
  have hz : ∀ α S, cf k S (wd k (ws k r s) fun c => comb α r s c) = 0 := fun α => wd_comb fun t ht S => ws_kills k r S s t ht
  have hcombx : ∀ α (x : Nat → Int) S, cf k S (wd k (wd k (ws k r s) x) fun c => comb α r s c) = 0 := fun α x S => by
    have e : wd k (ws k r s) (fun c => comb α r s c) = lc k 0 (un k) 0 (un k) := lm_ext fun S => by rw [hz, cf_lc]; omega
    rw [wd_anti, e, wd_lc, cf_lc]; omega
  have e1 : ∀ (u : Nat → Int) (x : Lm k), (∀ α S, cf k S (wd k x fun c => comb α r s c) = 0) → ∀ S, Dt k r s * cf k S (wd k x u) = cf k S (wd k x (Vs k r s u)) := fun u x hx S => by
    obtain ⟨q, hq, α, hα⟩ := h u
    have h1 : wd k x (fun c => (q * Dt k r s) * u c + 0 * u c) = wd k x (fun c => q * Vs k r s u c + 1 * comb α r s c) := wd_congr x fun c hc => by
      have := hα c hc
      rw [Int.mul_assoc]; omega
    rw [wd_lin, wd_lin] at h1
    have h2 := congrArg (cf k S) h1
    rw [cf_lc, cf_lc, hx] at h2
    have h3 : q * (Dt k r s * cf k S (wd k x u)) = q * cf k S (wd k x (Vs k r s u)) := by grind
    exact Int.eq_of_mul_eq_mul_left hq h3
  have e2 : lc k (Dt k r s) (wd k (ws k r s) u) 0 (un k) = lc k 1 (wd k (ws k r s) (Vs k r s u)) 0 (un k) := lm_ext fun S => by
    rw [cf_lc, cf_lc, e1 u _ hz S]; omega
  have e3 : ∀ S, Dt k r s * cf k S (wd k (wd k (ws k r s) u) v) = cf k S (wd k (wd k (ws k r s) (Vs k r s u)) v) := fun S => by
    have := congrArg (fun z => cf k S (wd k z v)) e2
    simp only [wd_lc, cf_lc] at this
    omega
  have e4 := e1 v _ (fun α S => hcombx α (Vs k r s u) S) (fstb (s + 1) b)
  have hvs : ∀ (u : Nat → Int) c, c < s → Vs k r s u c = 0 := fun u c hc => by unfold Vs; rw [if_neg (by omega)]
  have e6 := cf_low2 hb hbk (hvs u) (hvs v) (ws k r s)
  rw [e6, ← e3] at e4
  have e5 : Vs k r s u s = Ph k r s u s ∧ Vs k r s v b = Ph k r s v b ∧ Vs k r s u b = Ph k r s u b ∧ Vs k r s v s = Ph k r s v s := by
    unfold Vs
    rw [if_pos (Nat.le_refl s), if_pos (by omega), if_pos (by omega), if_pos (Nat.le_refl s)]
    exact ⟨rfl, rfl, rfl, rfl⟩
  rw [e5.1, e5.2.1, e5.2.2.1, e5.2.2.2] at e4
  change Dt k r s * (Dt k r s * _) = _ * Dt k r s at e4
  rw [Int.mul_comm (Ph k r s u s * _ - _)] at e4
  exact Int.eq_of_mul_eq_mul_left hD e4
theorem Dec.zero : Dec k r 0 := fun u => ⟨1, by decide, fun _ => 0, fun c hc => by
  rw [Dt_zero]
  unfold Vs
  rw [if_pos (Nat.zero_le c), Ph_zero k r u hc]
  simp [comb]⟩
theorem Dec.succ {s : Nat} (h : Dec k r s) (hD : Dt k r s ≠ 0) : Dec k r (s + 1) := fun u => by
  obtain ⟨q, hq, α, hα⟩ := h u
  obtain ⟨p, hp, β, hβ⟩ := h (r s)
  refine ⟨q * p * Dt k r s, by
    intro e
    rcases Int.mul_eq_zero.1 e with e | e
    · rcases Int.mul_eq_zero.1 e with e | e
      · exact hq e
      · exact hp e
    · exact hD e, fun t => if t = s then q * p * Ph k r s u s * Dt k r s else (p * Dt k r (s + 1)) * α t + (-(q * Ph k r s u s)) * β t, fun c hc => ?_⟩
  have h1 := hα c hc
  have h2 := hβ c hc
  have h3 : comb (fun t => if t = s then q * p * Ph k r s u s * Dt k r s else (p * Dt k r (s + 1)) * α t + (-(q * Ph k r s u s)) * β t) r (s + 1) c = (p * Dt k r (s + 1)) * comb α r s c + (-(q * Ph k r s u s)) * comb β r s c + q * p * Ph k r s u s * Dt k r s * r s c := by
    simp only [comb, if_true]
    rw [comb_congr (β := fun t => (p * Dt k r (s + 1)) * α t + (-(q * Ph k r s u s)) * β t) r c (fun t ht => if_neg (by omega)), comb_lin]
    omega
  rw [h3]
  have hDs : Dt k r (s + 1) = Ph k r s (r s) s := Dt_succ k r s
  have key : Dt k r s * Vs k r (s + 1) u c = Dt k r (s + 1) * Vs k r s u c - Ph k r s u s * Vs k r s (r s) c := by
    rcases Nat.lt_trichotomy c s with e | e | e
    · unfold Vs
      rw [if_neg (by omega), if_neg (by omega), if_neg (by omega)]; omega
    · subst e
      unfold Vs
      rw [if_neg (by omega), if_pos (Nat.le_refl _), if_pos (Nat.le_refl _), hDs]
      rw [Int.mul_comm (Ph k r c u c)]; omega
    · have := h.psi hD (r s) u e hc
      unfold Vs
      rw [if_pos (by omega), if_pos (by omega), if_pos (by omega), hDs]
      show Dt k r s * cf k (fstb (s + 1) c) (wd k (wd k (ws k r s) (r s)) u) = _
      rw [this, Int.mul_comm (Ph k r s (r s) c)]
  have e1 : comb α r s c = q * (Dt k r s * u c) - q * Vs k r s u c := by omega
  have e2 : comb β r s c = p * (Dt k r s * r s c) - p * Vs k r s (r s) c := by omega
  rw [e1, e2]
  grind
theorem dec_all {s : Nat} (h : ∀ t, t < s → Dt k r t ≠ 0) : Dec k r s := by
  induction s with
  | zero => exact Dec.zero
  | succ s ih => exact (ih fun t ht => h t (by omega)).succ (h s (by omega))
/-- a step of the elimination -/
theorem bareiss {s : Nat} (h : ∀ t, t ≤ s → Dt k r t ≠ 0) {a b : Nat} (hb : s < b) (hbk : b < k) : Dt k r s * Vt k r (s + 1) a b = Vt k r s s s * Vt k r s a b - Vt k r s s b * Vt k r s a s :=
  (dec_all fun t ht => h t (by omega)).psi (h s (Nat.le_refl s)) (r s) (r a) hb hbk
end
end Go.Proofs.YtnkmfnnkophccaaDoor
