/- GRAHAM: the longest first. The plain law. -/
import Derived.Test.YtecillikakfdnaaGrahamLaw
namespace Go.Proofs.Ytecillikakfdnaa
open Go.RowKit

/-- what those of a list are together that a hand has -/
def wsum (g : Nat → Int) (c : Nat → Int) (b : Nat) (l : List Nat) : Int := (l.map fun i => if c i = b then g i else 0).sum
theorem wsum_cons (g : Nat → Int) (c : Nat → Int) (b a : Nat) (l : List Nat) : wsum g c b (a :: l) = (if c a = b then g a else 0) + wsum g c b l := by simp [wsum]
def phi (t : Nat → Int) (y : Int) (i : Nat) : Int := if y < t i then 2 else 1
theorem rsum_zero : ∀ h : Nat, rsum h (fun _ => 0) = 0
  | 0 => rfl
  | h + 1 => by rw [rsum_succ, rsum_zero h]; rfl
theorem exch (g : Nat → Int) (c : Nat → Int) (h : Nat) : ∀ l : List Nat, (∀ i, i ∈ l → 0 ≤ c i ∧ c i < h) → rsum h (fun b => wsum g c b l) = (l.map g).sum
  | [], _ => rsum_zero h
  | a :: l, hl => by
    have ih := exch g c h l fun i hi => hl i (List.mem_cons_of_mem _ hi)
    obtain ⟨h0, h1⟩ := hl a List.mem_cons_self
    obtain ⟨k, hk⟩ := Int.eq_ofNat_of_zero_le h0
    have e : rsum h (fun b => wsum g c b (a :: l)) = rsum h (put1 (fun b => wsum g c b l) k (wsum g c k l + g a)) := rsum_congr fun i _ => by
      rw [wsum_cons]
      by_cases hi : i = k
      · subst hi; rw [put1_same, if_pos hk]; omega
      · rw [put1_other _ _ hi, if_neg (by omega)]; omega
    rw [e, rsum_put _ _ (by omega), ih]
    simp only [List.map_cons, List.sum_cons]
    omega
theorem two_up {t : Nat → Int} {y : Int} (c : Nat → Int) (b : Nat) : ∀ l : List Nat, (wsum t c b l = 0 ∧ wsum (phi t y) c b l = 0) ∨ (wsum (phi t y) c b l = 1 ∧ wsum t c b l ≤ y) ∨ 2 ≤ wsum (phi t y) c b l
  | [] => .inl ⟨rfl, rfl⟩
  | a :: l => by
    have ih := two_up (t := t) (y := y) c b l
    rw [wsum_cons, wsum_cons]
    by_cases hc : c a = b
    · rw [if_pos hc, if_pos hc]
      by_cases hy : y < t a
      · have : phi t y a = 2 := by unfold phi; rw [if_pos hy]
        rw [this]
        rcases ih with ⟨_, h⟩ | ⟨h, _⟩ | h <;> omega
      · have : phi t y a = 1 := by unfold phi; rw [if_neg hy]
        rw [this]
        rcases ih with ⟨h1, h⟩ | ⟨h, _⟩ | h <;> omega
    · rw [if_neg hc, if_neg hc]
      rcases ih with ⟨h1, h⟩ | ⟨h, h1⟩ | h <;> omega
theorem two_down {t : Nat → Int} {x p : Int} (ht : ∀ i, 0 ≤ t i) (h3 : x < 3 * p) (c : Nat → Int) (b : Nat) : ∀ l : List Nat, (∀ i, i ∈ l → p ≤ t i) →
    (wsum t c b l = 0 ∧ wsum (phi t (x - p)) c b l = 0) ∨ (wsum (phi t (x - p)) c b l = 1 ∧ p ≤ wsum t c b l) ∨ (wsum (phi t (x - p)) c b l = 2 ∧ (2 * p ≤ wsum t c b l ∨ x - p < wsum t c b l)) ∨ x < wsum t c b l
  | [], _ => .inl ⟨rfl, rfl⟩
  | a :: l, hl => by
    have ih := two_down ht h3 c b l fun i hi => hl i (List.mem_cons_of_mem _ hi)
    have hp := hl a List.mem_cons_self
    have h0 := ht a
    rw [wsum_cons, wsum_cons]
    by_cases hc : c a = b
    · rw [if_pos hc, if_pos hc]
      by_cases hy : x - p < t a
      · have : phi t (x - p) a = 2 := by unfold phi; rw [if_pos hy]
        rw [this]
        rcases ih with ⟨h1, h⟩ | ⟨h, h1⟩ | ⟨h, h1 | h1⟩ | h <;> omega
      · have : phi t (x - p) a = 1 := by unfold phi; rw [if_neg hy]
        rw [this]
        rcases ih with ⟨h1, h⟩ | ⟨h, h1⟩ | ⟨h, h1 | h1⟩ | h <;> omega
    · rw [if_neg hc, if_neg hc]
      rcases ih with ⟨h1, h⟩ | ⟨h, h1⟩ | ⟨h, h1 | h1⟩ | h <;> omega
theorem rsum_le2 {h : Nat} {F : Nat → Int} {m : Int} (hF : ∀ b, b < h → F b ≤ m) : rsum h F ≤ h * m := by
  induction h with
  | zero => simp [rsum]
  | succ h ih =>
    rw [rsum_succ]
    have := ih (fun b hb => hF b (by omega))
    have := hF h (by omega)
    have e : ((h + 1 : Nat) : Int) * m = h * m + m := by rw [Int.natCast_add, Int.add_mul]; simp
    omega
theorem Run.lpt {t : Nat → Int} {h : Nat} {o : List Nat} {F L c : Nat → Int} (h1 : 1 ≤ h) {x : Int} (ht : ∀ i, 0 ≤ t i) (hx0 : 0 ≤ x) (hc : ∀ i, 0 ≤ c i ∧ c i < h) (r : Run t h o F L) :
    o.Nodup → (∀ i, i ∈ o → t i ≤ x) → osum t o ≤ h * x → (∀ b, b < h → wsum t c b o ≤ x) → o.Pairwise (fun a b => t b ≤ t a) → ∀ b, b < h → 3 * (h : Int) * F b ≤ (4 * h - 1) * x := by
  have hpos : 0 ≤ (4 * (h : Int) - 1) * x := Int.mul_nonneg (by omega) hx0
  induction r with
  | start =>
    intro _ _ _ _ _ b _
    simpa using hpos
  | @next o F L i k r hk hmin ih =>
    intro hnd hxt hsum hopt hpw b hb
    obtain ⟨hnd1, _, hnd3⟩ := List.nodup_append.1 hnd
    obtain ⟨hpw1, _, hpw3⟩ := List.pairwise_append.1 hpw
    have hti := ht i
    have hos : osum t (o ++ [i]) = osum t o + t i := osum_snoc t o i
    have hws : ∀ (g : Nat → Int) b, wsum g c b (o ++ [i]) = wsum g c b o + (if c i = b then g i else 0) := fun g b => by simp [wsum]
    by_cases hbk : b = k
    · subst hbk
      rw [put1_same]
      have hF := r.pos ht
      have h2 := rsum_ge (F := F) hmin
      rw [r.total] at h2
      by_cases h3 : 3 * t i ≤ x
      · have e1 : 3 * (h : Int) * (F b + t i) = 3 * ((h : Int) * F b) + 3 * (h * t i) := by rw [Int.mul_add, Int.mul_assoc, Int.mul_assoc]
        have e2 : (4 * (h : Int) - 1) * x = 3 * (h * x) + (h - 1) * x := by
          rw [Int.sub_mul, Int.sub_mul, Int.mul_assoc]; omega
        have e3 : ((h : Int) - 1) * (3 * t i) ≤ (h - 1) * x := Int.mul_le_mul_of_nonneg_left h3 (by omega)
        have e4 : ((h : Int) - 1) * (3 * t i) = 3 * (h * t i) - 3 * t i := by
          rw [Int.sub_mul, Int.mul_left_comm]; omega
        omega
      · have hle : F b + t i ≤ x := by
          refine Int.not_lt.1 fun hgt => ?_
          have hup : ∀ q, q < h → 2 ≤ wsum (phi t (x - t i)) L q o := fun q hq => by
            have hl := r.load hnd1 q
            have hl2 : F q = wsum t L q o := hl
            have := hmin q hq
            have hxi := hxt i (by simp)
            rcases two_up (t := t) (y := x - t i) L q o with ⟨h4, h5⟩ | ⟨h4, h5⟩ | h4
            · omega
            · omega
            · exact h4
          have s1 := rsum_ge (F := fun q => wsum (phi t (x - t i)) L q o) hup
          rw [exch _ _ _ _ fun j hj => r.hand j hj] at s1
          have hdn : ∀ q, q < h → wsum (phi t (x - t i)) c q (o ++ [i]) ≤ 2 := fun q hq => by
            have hq2 := hopt q hq
            rcases two_down ht (show x < 3 * t i by omega) c q (o ++ [i]) (fun j hj => by
              rcases List.mem_append.1 hj with h4 | h4
              · exact hpw3 j h4 i (by simp)
              · obtain rfl : j = i := by simpa using h4
                exact Int.le_refl _) with ⟨_, h5⟩ | ⟨h5, _⟩ | ⟨h5, _⟩ | h5 <;> omega
          have s2 := rsum_le2 (F := fun q => wsum (phi t (x - t i)) c q (o ++ [i])) hdn
          rw [exch _ _ _ _ fun j _ => hc j, List.map_append, List.sum_append] at s2
          have hphi : 1 ≤ phi t (x - t i) i := by unfold phi; split <;> omega
          simp only [List.map_cons, List.map_nil, List.sum_cons, List.sum_nil] at s2
          omega
        have e1 : 3 * (h : Int) * (F b + t i) ≤ 3 * (h : Int) * x := Int.mul_le_mul_of_nonneg_left hle (by omega)
        have e2 : (4 * (h : Int) - 1) * x = 3 * (h : Int) * x + (h - 1) * x := by
          rw [← Int.add_mul]; congr 1; omega
        have e3 : 0 ≤ ((h : Int) - 1) * x := Int.mul_nonneg (by omega) hx0
        omega
    · rw [put1_other _ _ hbk]
      refine ih hnd1 (fun j hj => hxt j (by simp [hj])) (by omega) (fun q hq => ?_) hpw1 b hb
      have := hopt q hq
      rw [hws] at this
      split at this <;> omega
theorem lpt {ts : List Int} {h : Nat} {o : List Nat} {F L : Nat → Int} {x : Int} {j : Nat} (h1 : 1 ≤ h) (ht : ∀ i, 0 ≤ ts.getD i 0) (ho : Opt ts h (2 ^ ts.length - 1) x) (hp : o.Perm (List.range ts.length)) (hpw : o.Pairwise (fun a b => tOf ts b ≤ tOf ts a)) (r : Run (tOf ts) h o F L) (hj : j < h) (hmax : ∀ b, b < h → F b ≤ F j) :
    endsF ts (lOf ts.length L) h = F j ∧ x ≤ F j ∧ 3 * (h : Int) * F j ≤ (4 * h - 1) * x := by
  obtain ⟨q1, q2, _⟩ := graham h1 ht ho hp r hj hmax
  have hx0 : 0 ≤ x := by
    obtain ⟨f, _, hf⟩ := ho.1
    have := hf 0 h1
    have := has_nonneg ht (2 ^ ts.length - 1) f 0
    omega
  refine ⟨q1, q2, ?_⟩
  obtain ⟨f, hfh, hf⟩ := ho.1
  refine Run.lpt (t := tOf ts) (c := fun i => (f i : Int)) h1 ht hx0 (fun i => ⟨by omega, by have := hfh i; omega⟩) r (hp.nodup_iff.2 List.nodup_range) (fun i hi => opt_each ht ho i (by simpa using hp.subset hi)) (by rw [osum_run hp, psum_full]; exact opt_sum ho) (fun b hb => ?_) hpw j hj
  refine Int.le_trans (Int.le_of_eq ?_) (hf b hb)
  unfold wsum has
  rw [perm_sum (hp.map fun i => if (f i : Int) = (b : Int) then tOf ts i else 0)]
  exact sum_congr fun i hi => by
    have e : inW (2 ^ ts.length - 1) i = true := by simp [inW, bit_full _ i hi]
    rw [e]
    by_cases hb2 : f i = b
    · simp [hb2]; rfl
    · rw [if_neg (by omega)]; simp [hb2]
end Go.Proofs.Ytecillikakfdnaa
