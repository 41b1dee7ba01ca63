/- Wedge products of rows of integers, and their coordinates: determinants. Plain. -/
import Derived.Test.YtnkmfnnkophccaaDoorBase
namespace Go.Proofs.YtnkmfnnkophccaaDoor

def Lm : Nat → Type
  | 0 => Int
  | n + 1 => Lm n × Lm n
def lc : (n : Nat) → Int → Lm n → Int → Lm n → Lm n
  | 0, a, x, b, y => show Int from a * (show Int from x) + b * (show Int from y)
  | n + 1, a, x, b, y => (lc n a x.1 b y.1, lc n a x.2 b y.2)
/-- wedged with a row -/
def wd : (n : Nat) → Lm n → (Nat → Int) → Lm n
  | 0, _, _ => show Int from 0
  | n + 1, w, v => (wd n w.1 v, lc n (v n) w.1 (-1) (wd n w.2 v))
/-- a coordinate -/
def cf : (n : Nat) → (Nat → Bool) → Lm n → Int
  | 0, _, x => x
  | n + 1, S, x => if S n then cf n S x.2 else cf n S x.1
def un : (n : Nat) → Lm n
  | 0 => show Int from 1
  | n + 1 => (un n, lc n 0 (un n) 0 (un n))
theorem cf_congr {S T : Nat → Bool} : ∀ {n : Nat} (x : Lm n), (∀ j, j < n → S j = T j) → cf n S x = cf n T x
  | 0, _, _ => rfl
  | n + 1, x, h => by
    have ih := fun y => cf_congr (S := S) (T := T) (n := n) y fun j hj => h j (by omega)
    show (if S n then cf n S x.2 else cf n S x.1) = if T n then cf n T x.2 else cf n T x.1
    rw [h n (by omega), ih, ih]
theorem cf_lc (S : Nat → Bool) (a b : Int) : ∀ {n : Nat} (x y : Lm n), cf n S (lc n a x b y) = a * cf n S x + b * cf n S y
  | 0, _, _ => rfl
  | n + 1, x, y => by
    show (if S n then cf n S (lc n a x.2 b y.2) else cf n S (lc n a x.1 b y.1)) = a * (if S n then cf n S x.2 else cf n S x.1) + b * (if S n then cf n S y.2 else cf n S y.1)
    split
    · exact cf_lc S a b x.2 y.2
    · exact cf_lc S a b x.1 y.1
theorem lm_ext : ∀ {n : Nat} {x y : Lm n}, (∀ S, cf n S x = cf n S y) → x = y
  | 0, _, _, h => h fun _ => false
  | n + 1, x, y, h => by
    refine Prod.ext (lm_ext fun S => ?_) (lm_ext fun S => ?_)
    · have := h fun j => if j = n then false else S j
      have e : ∀ z : Lm n, cf n (fun j => if j = n then false else S j) z = cf n S z := fun z => cf_congr z fun j hj => if_neg (by omega)
      simp only [cf, if_true, Bool.false_eq_true, if_false, e] at this
      exact this
    · have := h fun j => if j = n then true else S j
      have e : ∀ z : Lm n, cf n (fun j => if j = n then true else S j) z = cf n S z := fun z => cf_congr z fun j hj => if_neg (by omega)
      simp only [cf, if_true, e] at this
      exact this
theorem wd_lin (a b : Int) (v w : Nat → Int) : ∀ {n : Nat} (x : Lm n), wd n x (fun c => a * v c + b * w c) = lc n a (wd n x v) b (wd n x w)
  | 0, _ => by show (0 : Int) = a * 0 + b * 0; omega
  | n + 1, x => by
    refine Prod.ext (wd_lin a b v w x.1) ?_
    show lc n (a * v n + b * w n) x.1 (-1) (wd n x.2 fun c => a * v c + b * w c) = lc n a (lc n (v n) x.1 (-1) (wd n x.2 v)) b (lc n (w n) x.1 (-1) (wd n x.2 w))
    rw [wd_lin a b v w x.2]
    refine lm_ext fun S => ?_
    simp only [cf_lc]
    grind
theorem wd_lc (a b : Int) (v : Nat → Int) : ∀ {n : Nat} (x y : Lm n), wd n (lc n a x b y) v = lc n a (wd n x v) b (wd n y v)
  | 0, _, _ => by show (0 : Int) = a * 0 + b * 0; omega
  | n + 1, x, y => by
    refine Prod.ext (wd_lc a b v x.1 y.1) ?_
    show lc n (v n) (lc n a x.1 b y.1) (-1) (wd n (lc n a x.2 b y.2) v) = lc n a (lc n (v n) x.1 (-1) (wd n x.2 v)) b (lc n (v n) y.1 (-1) (wd n y.2 v))
    rw [wd_lc a b v x.2 y.2]
    refine lm_ext fun S => ?_
    simp only [cf_lc]
    grind
theorem wd_congr {v w : Nat → Int} : ∀ {n : Nat} (x : Lm n), (∀ c, c < n → v c = w c) → wd n x v = wd n x w
  | 0, _, _ => rfl
  | n + 1, x, h => by
    have ih := fun y => wd_congr (v := v) (w := w) (n := n) y fun c hc => h c (by omega)
    refine Prod.ext (ih x.1) ?_
    show lc n (v n) x.1 (-1) (wd n x.2 v) = lc n (w n) x.1 (-1) (wd n x.2 w)
    rw [h n (by omega), ih]
theorem wd_alt (v : Nat → Int) (S : Nat → Bool) : ∀ {n : Nat} (x : Lm n), cf n S (wd n (wd n x v) v) = 0
  | 0, _ => rfl
  | n + 1, x => by
    have h1 := wd_alt v S x.1
    have h2 := wd_alt v S x.2
    show (if S n then cf n S (lc n (v n) (wd n x.1 v) (-1) (wd n (lc n (v n) x.1 (-1) (wd n x.2 v)) v)) else cf n S (wd n (wd n x.1 v) v)) = 0
    split
    · rw [wd_lc, cf_lc, cf_lc, h2]; grind
    · exact h1
theorem wd_anti (v w : Nat → Int) (S : Nat → Bool) {n : Nat} (x : Lm n) : cf n S (wd n (wd n x v) w) = - cf n S (wd n (wd n x w) v) := by
  have h := wd_alt (fun c => 1 * v c + 1 * w c) S x
  rw [wd_lin, wd_lin, wd_lc, wd_lc, cf_lc, cf_lc, cf_lc, wd_alt, wd_alt] at h
  omega
/-- the first s columns -/
def fst' (s : Nat) (j : Nat) : Bool := decide (j < s)
def fstb (s b : Nat) (j : Nat) : Bool := decide (j < s) || decide (j = b)
theorem cf_low0 {s : Nat} {x : Nat → Int} (hx : ∀ c, c < s → x c = 0) : ∀ {n : Nat} (w : Lm n), cf n (fst' s) (wd n w x) = 0
  | 0, _ => rfl
  | n + 1, w => by
    have h1 := cf_low0 hx w.1
    have h2 := cf_low0 hx w.2
    show (if fst' s n then cf n (fst' s) (lc n (x n) w.1 (-1) (wd n w.2 x)) else cf n (fst' s) (wd n w.1 x)) = 0
    by_cases e : n < s
    · rw [if_pos (by unfold fst'; exact decide_eq_true e), cf_lc, h2, hx n e]; omega
    · rw [if_neg (by unfold fst'; simp; omega)]; exact h1
theorem cf_lowb {s b : Nat} (hb : s ≤ b) {x : Nat → Int} (hx : ∀ c, c < s → x c = 0) : ∀ {n : Nat} (w : Lm n), cf n (fstb s b) (wd n w x) = if b < n then x b * cf n (fst' s) w else 0
  | 0, _ => by simp [cf, wd]
  | n + 1, w => by
    have h1 := cf_lowb hb hx w.1
    have h2 := cf_lowb hb hx w.2
    show (if fstb s b n then cf n (fstb s b) (lc n (x n) w.1 (-1) (wd n w.2 x)) else cf n (fstb s b) (wd n w.1 x)) = if b < n + 1 then x b * (if fst' s n then cf n (fst' s) w.2 else cf n (fst' s) w.1) else 0
    by_cases e : n = b
    · subst e
      rw [if_pos (by unfold fstb; simp), if_pos (by omega), if_neg (show ¬ fst' s n = true by unfold fst'; simp; omega), cf_lc, h2, if_neg (by omega)]
      rw [cf_congr (T := fst' s) w.1 fun j hj => by unfold fstb fst'; simp; omega]
      omega
    · by_cases e2 : n < s
      · rw [if_pos (by unfold fstb; simp; omega), cf_lc, h2, hx n e2, if_neg (by omega), if_neg (by omega)]; omega
      · rw [if_neg (by unfold fstb; simp; omega), if_neg (show ¬ fst' s n = true by unfold fst'; simp; omega), h1]
        by_cases e3 : b < n
        · rw [if_pos e3, if_pos (by omega)]
        · rw [if_neg e3, if_neg (by omega)]
/-- the first s rows, wedged -/
def ws (n : Nat) (r : Nat → Nat → Int) : Nat → Lm n
  | 0 => un n
  | s + 1 => wd n (ws n r s) (r s)
theorem ws_kills (n : Nat) (r : Nat → Nat → Int) (S : Nat → Bool) : ∀ (s t : Nat), t < s → cf n S (wd n (ws n r s) (r t)) = 0
  | 0, _, h => absurd h (by omega)
  | s + 1, t, h => by
    by_cases e : t = s
    · subst e; exact wd_alt _ S _
    · have ih : wd n (ws n r s) (r t) = lc n 0 (un n) 0 (un n) := lm_ext fun S => by rw [ws_kills n r S s t (by omega), cf_lc]; omega
      show cf n S (wd n (wd n (ws n r s) (r s)) (r t)) = 0
      rw [wd_anti, ih, wd_lc, cf_lc]; omega
theorem un_cf : ∀ n : Nat, cf n (fst' 0) (un n) = 1
  | 0 => rfl
  | n + 1 => by
    show (if fst' 0 n then _ else cf n (fst' 0) (un n)) = 1
    rw [if_neg (by unfold fst'; simp)]; exact un_cf n
end Go.Proofs.YtnkmfnnkophccaaDoor
