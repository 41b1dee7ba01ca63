/- Who has the least gets the next: the plain law. -/
import Derived.Test.YtecillikakfdnaaSplitAny
import Derived.Test.YtecillikakfdnaaRow
namespace Go.Proofs.Ytecillikakfdnaa

def put1 (F : Nat → Int) (j : Nat) (v : Int) : Nat → Int := fun i => if i = j then v else F i
theorem put1_same (F : Nat → Int) (j : Nat) (v : Int) : put1 F j v j = v := by simp [put1]
theorem put1_other (F : Nat → Int) {j i : Nat} (v : Int) (h : i ≠ j) : put1 F j v i = F i := by simp [put1, h]
/-- so many are given in that order: what each hand has, and whom each is given -/
inductive Run (t : Nat → Int) (h : Nat) : List Nat → (Nat → Int) → (Nat → Int) → Prop
  | start : Run t h [] (fun _ => 0) (fun _ => 0)
  | next {o : List Nat} {F L : Nat → Int} {i k : Nat} : Run t h o F L → k < h → (∀ b, b < h → F k ≤ F b) → Run t h (o ++ [i]) (put1 F k (F k + t i)) (put1 L i k)
def osum (t : Nat → Int) (o : List Nat) : Int := (o.map t).sum
theorem osum_snoc (t : Nat → Int) (o : List Nat) (i : Nat) : osum t (o ++ [i]) = osum t o + t i := by simp [osum, List.sum_append]
theorem osum_nonneg {t : Nat → Int} (ht : ∀ i, 0 ≤ t i) : ∀ o : List Nat, 0 ≤ osum t o
  | [] => by simp [osum]
  | a :: o => by have := osum_nonneg ht o; have := ht a; simp [osum] at *; omega
def rsum (h : Nat) (F : Nat → Int) : Int := ((List.range h).map F).sum
theorem rsum_succ (h : Nat) (F : Nat → Int) : rsum (h + 1) F = rsum h F + F h := by simp [rsum, List.range_succ, List.sum_append]
theorem rsum_congr {h : Nat} {F G : Nat → Int} (e : ∀ i, i < h → F i = G i) : rsum h F = rsum h G := by
  induction h with
  | zero => rfl
  | succ h ih => rw [rsum_succ, rsum_succ, ih (fun i hi => e i (by omega)), e h (by omega)]
theorem rsum_put {h k : Nat} (F : Nat → Int) (v : Int) (hk : k < h) : rsum h (put1 F k v) = rsum h F + (v - F k) := by
  induction h with
  | zero => omega
  | succ h ih =>
    rw [rsum_succ, rsum_succ]
    by_cases hkh : k = h
    · subst hkh
      rw [put1_same, rsum_congr (G := F) (fun i hi => put1_other _ _ (by omega))]
      omega
    · rw [ih (by omega), put1_other _ _ (fun e => hkh e.symm)]
      omega
theorem rsum_ge {h : Nat} {F : Nat → Int} {m : Int} (hF : ∀ b, b < h → m ≤ F b) : (h : Int) * m ≤ rsum h F := by
  induction h with
  | zero => simp [rsum]
  | succ h ih =>
    rw [rsum_succ]
    have := ih (fun b hb => hF b (by omega))
    have := hF h (by omega)
    have e : ((h + 1 : Nat) : Int) * m = h * m + m := by rw [Int.natCast_add, Int.add_mul]; simp
    omega
section
variable {t : Nat → Int} {h : Nat} {o : List Nat} {F L : Nat → Int}
theorem Run.pos (ht : ∀ i, 0 ≤ t i) (r : Run t h o F L) : ∀ b, 0 ≤ F b := by
  induction r with
  | start => exact fun _ => Int.le_refl _
  | @next o F L i k _ _ _ ih =>
    intro b
    by_cases hb : b = k
    · subst hb; rw [put1_same]; have := ih b; have := ht i; omega
    · rw [put1_other _ _ hb]; exact ih b
theorem Run.le {M : Int} (ht : ∀ i, 0 ≤ t i ∧ t i ≤ M) (r : Run t h o F L) : ∀ b, F b ≤ o.length * M := by
  induction r with
  | start => simp
  | @next o F L i k _ _ _ ih =>
    intro b
    have e : ((o ++ [i]).length : Int) * M = o.length * M + M := by rw [List.length_append, List.length_singleton]; simp [Int.add_mul]
    rw [e]
    have := (ht i)
    by_cases hb : b = k
    · subst hb; rw [put1_same]; have := ih b; omega
    · rw [put1_other _ _ hb]; have := ih b; omega
theorem Run.hand (r : Run t h o F L) : ∀ i, i ∈ o → 0 ≤ L i ∧ L i < h := by
  induction r with
  | start => intro i hi; cases hi
  | @next o F L i k _ hk _ ih =>
    intro j hj
    by_cases hji : j = i
    · subst hji; rw [put1_same]; omega
    · rw [put1_other _ _ hji]
      rcases List.mem_append.1 hj with h1 | h1
      · exact ih j h1
      · exact absurd (by simpa using h1) hji
theorem Run.total (r : Run t h o F L) : rsum h F = osum t o := by
  induction r with
  | start =>
    simp only [osum, List.map_nil, List.sum_nil]
    exact (rsum_congr (G := fun _ => 0) fun _ _ => rfl).trans (by induction h with | zero => rfl | succ h ih => rw [rsum_succ, ih]; rfl)
  | @next o F L i k _ hk _ ih => rw [rsum_put F _ hk, ih, osum_snoc]; omega
/-- GRAHAM -/
theorem Run.graham (h1 : 1 ≤ h) {x : Int} (ht : ∀ i, 0 ≤ t i) (hx : ∀ i, i ∈ o → t i ≤ x) (hx0 : 0 ≤ x) (r : Run t h o F L) : ∀ b, b < h → (h : Int) * F b ≤ osum t o + (h - 1) * x := by
  induction r with
  | start =>
    intro b _
    have : 0 ≤ ((h : Int) - 1) * x := Int.mul_nonneg (by omega) hx0
    simp [osum]
    omega
  | @next o F L i k r hk hmin ih =>
    intro b hb
    rw [osum_snoc]
    have hti := ht i
    by_cases hbk : b = k
    · subst hbk
      rw [put1_same]
      have h2 := rsum_ge (F := F) hmin
      rw [r.total] at h2
      have h3 : ((h : Int) - 1) * t i ≤ (h - 1) * x := Int.mul_le_mul_of_nonneg_left (hx i (by simp)) (by omega)
      have e1 : (h : Int) * (F b + t i) = h * F b + h * t i := Int.mul_add ..
      have e2 : ((h : Int) - 1) * t i = h * t i - t i := by rw [Int.sub_mul]; simp
      omega
    · rw [put1_other _ _ hbk]
      have := ih (fun j hj => hx j (by simp [hj])) b hb
      omega
/-- what each hand has is what is given to it -/
theorem Run.load (r : Run t h o F L) : o.Nodup → ∀ b : Nat, F b = (o.map fun i => if L i = b then t i else 0).sum := by
  induction r with
  | start => intro _ b; rfl
  | @next o F L i k r hk hmin ih =>
    intro hnd b
    have hio : i ∉ o := fun hi => by
      have := List.nodup_append.1 hnd
      exact this.2.2 i hi i (by simp) rfl
    have ho : o.Nodup := (List.nodup_append.1 hnd).1
    have hold := ih ho b
    have hcong : (o.map fun j => if put1 L i k j = b then t j else 0) = o.map fun j => if L j = b then t j else 0 :=
      List.map_congr_left fun j hj => by rw [put1_other _ _ (show j ≠ i from fun e => hio (by rw [← e]; exact hj))]
    rw [List.map_append, List.sum_append, hcong, ← hold]
    simp only [List.map_cons, List.map_nil, List.sum_cons, List.sum_nil, put1_same]
    by_cases hbk : b = k
    · subst hbk; rw [put1_same, if_pos rfl]; omega
    · rw [put1_other _ _ hbk, if_neg (by omega)]; omega
end
end Go.Proofs.Ytecillikakfdnaa
