/- The best way to give work to hands: what the table of sets holds. No program in sight. -/
import Derived.Test.YtecillikakfdnaaSplitB
namespace Go.Proofs.Ytecillikakfdnaa

theorem and_split (a b : Nat) : a &&& b = 2 * (a / 2 &&& b / 2) + (a % 2) * (b % 2) := by
  have h1 : (a &&& b) / 2 = a / 2 &&& b / 2 := Nat.and_div_two ..
  have h2 : (a &&& b) % 2 = (a % 2) * (b % 2) := by
    have h : (a &&& b).testBit 0 = (a.testBit 0 && b.testBit 0) := Nat.testBit_and ..
    rw [Nat.testBit_zero, Nat.testBit_zero, Nat.testBit_zero] at h
    have hc : (a &&& b) % 2 < 2 := Nat.mod_lt _ (by omega)
    generalize (a &&& b) % 2 = c at *
    rcases Nat.mod_two_eq_zero_or_one a with ha | ha <;> rcases Nat.mod_two_eq_zero_or_one b with hb | hb <;> rw [ha, hb] at h ⊢ <;> by_cases h1 : c = 1 <;> simp [h1] at h ⊢ <;> omega
  omega
/-- of the sets within w, the next one below s is (s - 1) within w -/
theorem sub_next : ∀ (s u w : Nat), u < s → u &&& w = u → s &&& w = s → u ≤ (s - 1) &&& w := by
  intro s
  induction s using Nat.strongRecOn with
  | _ s ih =>
    intro u w hu huw hsw
    have e1 := and_split u w
    have e2 := and_split s w
    have e3 := and_split (s - 1) w
    rw [huw] at e1
    rw [hsw] at e2
    rcases Nat.mod_two_eq_zero_or_one s with hs | hs
    · have h1 : (s - 1) % 2 = 1 := by omega
      have h2 : (s - 1) / 2 = s / 2 - 1 := by omega
      rw [hs, Nat.zero_mul] at e2
      rw [h1, h2, Nat.one_mul] at e3
      have hul : (u % 2) * (w % 2) ≤ w % 2 := by
        rcases Nat.mod_two_eq_zero_or_one u with h | h <;> simp [h]
      have hub : (u % 2) * (w % 2) ≤ 1 := by omega
      have := ih (s / 2) (by omega) (u / 2) (w / 2) (by omega) (by omega) (by omega)
      omega
    · have h1 : (s - 1) % 2 = 0 := by omega
      have h2 : (s - 1) / 2 = s / 2 := by omega
      rw [h1, h2, Nat.zero_mul] at e3
      have : (s % 2) * (w % 2) ≤ 1 := by rw [hs]; omega
      omega
/-- the things of a set -/
def inW (w i : Nat) : Bool := w.testBit i
/-- what hand b has, when the things of w go as f says -/
def has (ts : List Int) (w : Nat) (f : Nat → Nat) (b : Nat) : Int := ((List.range ts.length).map fun i => if inW w i && f i == b then ts.getD i 0 else 0).sum
def sumW (ts : List Int) (w : Nat) : Int := ((List.range ts.length).map fun i => if inW w i then ts.getD i 0 else 0).sum
/-- x is the earliest end for the things of w by h hands -/
def Opt (ts : List Int) (h w : Nat) (x : Int) : Prop :=
  (∃ f : Nat → Nat, (∀ i, f i < h) ∧ ∀ b, b < h → has ts w f b ≤ x) ∧ ∀ f : Nat → Nat, (∀ i, f i < h) → ∀ y, (∀ b, b < h → has ts w f b ≤ y) → x ≤ y
theorem sum_congr {n : Nat} {F G : Nat → Int} (h : ∀ i, i < n → F i = G i) : ((List.range n).map F).sum = ((List.range n).map G).sum := by
  rw [List.map_congr_left (fun i hi => h i (by simpa using hi))]
theorem sum_nonneg {n : Nat} {F : Nat → Int} (h : ∀ i, i < n → 0 ≤ F i) : 0 ≤ ((List.range n).map F).sum := by
  induction n with
  | zero => simp
  | succ n ih =>
    have := ih fun i hi => h i (by omega)
    have hn := h n (by omega)
    rw [List.range_succ, List.map_append, List.sum_append]
    simp
    omega
theorem mask_exists (n : Nat) (p : Nat → Bool) : ∃ s, s < 2 ^ n ∧ ∀ i, s.testBit i = (decide (i < n) && p i) := by
  induction n with
  | zero => exact ⟨0, by simp, fun i => by simp⟩
  | succ n ih =>
    obtain ⟨s, hs, hb⟩ := ih
    have h2 : 2 ^ (n + 1) = 2 * 2 ^ n := by rw [Nat.pow_succ]; omega
    cases hp : p n
    · refine ⟨s, by omega, fun i => ?_⟩
      rw [hb i]
      by_cases hi : i = n
      · subst hi; simp [hp]
      · by_cases h : i < n
        · simp [h, show i < n + 1 by omega]
        · simp [h, show ¬ i < n + 1 by omega]
    · refine ⟨s ||| 2 ^ n, Nat.or_lt_two_pow (by omega) (by omega), fun i => ?_⟩
      rw [Nat.testBit_or, Nat.testBit_two_pow, hb i]
      by_cases hi : i = n
      · subst hi; simp [hp]
      · by_cases h : i < n
        · simp [h, show i < n + 1 by omega, show ¬ n = i by omega]
        · simp [h, show ¬ i < n + 1 by omega, show ¬ n = i by omega]
theorem has_nonneg {ts : List Int} (ht : ∀ i, 0 ≤ ts.getD i 0) (w : Nat) (f : Nat → Nat) (b : Nat) : 0 ≤ has ts w f b :=
  sum_nonneg fun i _ => by
    split
    · exact ht i
    · exact Int.le_refl _
theorem opt_one (ts : List Int) (w : Nat) : Opt ts 1 w (sumW ts w) := by
  have he : ∀ f : Nat → Nat, (∀ i, f i < 1) → has ts w f 0 = sumW ts w := fun f hf => sum_congr fun i _ => by
    have : f i = 0 := by have := hf i; omega
    simp [this]
  refine ⟨⟨fun _ => 0, fun _ => Nat.zero_lt_one, fun b hb => ?_⟩, fun f hf y hy => ?_⟩
  · obtain rfl : b = 0 := by omega
    rw [he _ (fun _ => Nat.zero_lt_one)]
    exact Int.le_refl _
  · rw [← he f hf]; exact hy 0 (by omega)
/-- d is w without s -/
def Less (d w s : Nat) : Prop := ∀ i, d.testBit i = (w.testBit i && !s.testBit i)
theorem opt_step {ts : List Int} (ht : ∀ i, 0 ≤ ts.getD i 0) {h w : Nat} (h1 : 1 ≤ h) {best : Nat → Int} (hbest : ∀ d, d &&& w = d → Opt ts h d (best d)) {x : Int}
    (hle0 : x ≤ best w) (hle : ∀ s d, 0 < s → s &&& w = s → Less d w s → x ≤ max (sumW ts s) (best d))
    (hach : x = best w ∨ ∃ s d, s &&& w = s ∧ Less d w s ∧ x = max (sumW ts s) (best d)) : Opt ts (h + 1) w x := by
  have hsub : ∀ {d s : Nat}, Less d w s → d &&& w = d := fun {d s} hd => by
    apply Nat.eq_of_testBit_eq
    intro i
    rw [Nat.testBit_and, hd i]
    cases w.testBit i <;> simp
  constructor
  · rcases hach with rfl | ⟨s, d, hs, hd, rfl⟩
    · obtain ⟨⟨f, hf, hb⟩, _⟩ := hbest w (by rw [Nat.and_self])
      refine ⟨f, fun i => Nat.lt_succ_of_lt (hf i), fun b hbh => ?_⟩
      by_cases hlt : b < h
      · exact hb b hlt
      · have hz : has ts w f b = 0 := by
          have : has ts w f b = ((List.range ts.length).map fun _ => (0 : Int)).sum := sum_congr fun i _ => by
            have : ¬ f i = b := by have := hf i; omega
            simp [this]
          rw [this]
          have h0 : ∀ n, ((List.range n).map fun _ => (0 : Int)).sum = 0 := by
            intro n; induction n with
            | zero => rfl
            | succ n ih => rw [List.range_succ, List.map_append, List.sum_append, ih]; simp
          exact h0 _
        rw [hz]
        exact Int.le_trans (has_nonneg ht w f 0) (hb 0 (by omega))
    · obtain ⟨⟨f, hf, hb⟩, _⟩ := hbest d (hsub hd)
      have hsw : ∀ i, s.testBit i = true → w.testBit i = true := fun i hi => by
        have := congrArg (·.testBit i) hs
        simp only [Nat.testBit_and, hi, Bool.true_and] at this
        exact this
      refine ⟨fun i => if s.testBit i then h else f i, fun i => ?_, fun b hbh => ?_⟩
      · show (if s.testBit i then h else f i) < h + 1
        split
        · omega
        · exact Nat.lt_succ_of_lt (hf i)
      · by_cases hlt : b < h
        · have : has ts w (fun i => if s.testBit i then h else f i) b = has ts d f b := sum_congr fun i _ => by
            unfold inW
            rw [hd i]
            have hne : ¬ h = b := by omega
            by_cases hsi : s.testBit i = true
            · simp [hsi, hne]
            · simp [hsi]
          rw [this]
          exact Int.le_trans (hb b hlt) (Int.le_max_right _ _)
        · obtain rfl : b = h := by omega
          have : has ts w (fun i => if s.testBit i then b else f i) b = sumW ts s := sum_congr fun i _ => by
            unfold inW
            have hne : ¬ f i = b := by have := hf i; omega
            by_cases hsi : s.testBit i = true
            · simp [hsw i hsi, hsi]
            · simp [hne, hsi]
          rw [this]
          exact Int.le_max_left _ _
  · intro f hf y hy
    obtain ⟨s, _, hs⟩ := mask_exists ts.length fun i => w.testBit i && f i == h
    have hsw : s &&& w = s := by
      apply Nat.eq_of_testBit_eq
      intro i
      rw [Nat.testBit_and, hs i]
      cases w.testBit i <;> simp
    obtain ⟨d, _, hd⟩ := mask_exists (w + 1) fun i => w.testBit i && !s.testBit i
    have hdw : Less d w s := by
      intro i
      rw [hd i]
      by_cases hi : i < w + 1
      · simp [hi]
      · have : w.testBit i = false := Nat.testBit_lt_two_pow (Nat.lt_of_lt_of_le (Nat.lt_two_pow_self) (Nat.pow_le_pow_right (n := 2) (by omega) (show w ≤ i by omega)))
        simp [hi, this]
    have hsum : sumW ts s = has ts w f h := sum_congr fun i hi => by
      unfold inW
      rw [hs i]
      simp [hi]
    have hd2 : best d ≤ y := by
      refine (hbest d (hsub hdw)).2 (fun i => if f i = h then 0 else f i) (fun i => ?_) y fun b hb => ?_
      · show (if f i = h then 0 else f i) < h
        split
        · omega
        · have := hf i; omega
      · have : has ts d (fun i => if f i = h then 0 else f i) b = has ts w f b := sum_congr fun i hi => by
          unfold inW
          rw [hdw i, hs i]
          by_cases hfi : f i = h
          · have : ¬ h = b := by omega
            cases w.testBit i <;> simp [hfi, hi, this]
          · cases w.testBit i <;> simp [hfi]
        rw [this]
        exact hy b (by omega)
    rcases Nat.eq_zero_or_pos s with h0 | h0
    · have : d = w := by
        apply Nat.eq_of_testBit_eq
        intro i
        rw [hdw i, h0]
        simp
      subst this
      exact Int.le_trans hle0 hd2
    · have := hle s d h0 hsw hdw
      have hy2 := hy h (by omega)
      rw [hsum] at this
      omega
open Go.RowKit
theorem ofInt_i64'' (a : Nat) (ha : a < 9223372036854775808) : (BitVec.ofInt 64 (a : Int)).toNat = a := by
  rw [BitVec.ofInt_natCast, BitVec.toNat_ofNat]; exact Nat.mod_eq_of_lt (by omega)
theorem i64_andNot (y s : Nat) (hy : y < 65536) (hs : s < 65536) (hsub : s &&& y = s) : bits .andNot .i64 (y : Int) (s : Int) = ((y ^^^ s : Nat) : Int) := by
  have hx : y ^^^ s < 2 ^ 16 := Nat.xor_lt_two_pow (by omega) (by omega)
  have hb : (BitVec.ofInt 64 (y : Int) &&& ~~~ BitVec.ofInt 64 (s : Int)).toNat = y ^^^ s := by
    apply Nat.eq_of_testBit_eq
    intro i
    have h1 : (BitVec.ofInt 64 (y : Int)).getLsbD i = y.testBit i := by rw [BitVec.getLsbD, ofInt_i64'' y (by omega)]
    have h2 : (BitVec.ofInt 64 (s : Int)).getLsbD i = s.testBit i := by rw [BitVec.getLsbD, ofInt_i64'' s (by omega)]
    have h3 : (s &&& y).testBit i = s.testBit i := by rw [hsub]
    rw [Nat.testBit_and] at h3
    rw [BitVec.testBit_toNat, BitVec.getLsbD_and, BitVec.getLsbD_not, h1, h2, Nat.testBit_xor]
    by_cases hi : i < 64
    · cases hy' : y.testBit i <;> cases hs' : s.testBit i <;> simp_all
    · have e1 : y.testBit i = false := Nat.testBit_lt_two_pow (Nat.lt_of_lt_of_le hy (Nat.pow_le_pow_right (n := 2) (by omega) (show 16 ≤ i by omega)))
      have e2 : s.testBit i = false := Nat.testBit_lt_two_pow (Nat.lt_of_lt_of_le hs (Nat.pow_le_pow_right (n := 2) (by omega) (show 16 ≤ i by omega)))
      simp [e1, e2]
  show IntKind.i64.wrap ((BitVec.ofInt 64 (y : Int) &&& ~~~ BitVec.ofInt 64 (s : Int)).toNat : Int) = _
  rw [hb, IntKind.wrap_i64]
  omega
theorem less_xor (y s : Nat) (hsub : s &&& y = s) : Less (y ^^^ s) y s := by
  intro i
  have h3 : (s &&& y).testBit i = s.testBit i := by rw [hsub]
  rw [Nat.testBit_and] at h3
  rw [Nat.testBit_xor]
  cases hy' : y.testBit i <;> cases hs' : s.testBit i <;> simp_all
end Go.Proofs.Ytecillikakfdnaa
