/- GRAHAM: the plain law. -/
import Derived.Test.YtecillikakfdnaaGiveW
namespace Go.Proofs.Ytecillikakfdnaa
open Go.RowKit

theorem perm_sum {a b : List Int} (h : a.Perm b) : a.sum = b.sum := by
  induction h with
  | nil => rfl
  | cons x _ ih => simp [ih]
  | swap x y l => simp; omega
  | trans _ _ h1 h2 => exact h1.trans h2
def lOf (n : Nat) (L : Nat → Int) : List Int := (List.range n).map L
theorem row_lOf (n : Nat) (L : Nat → Int) : row n L = ints .i64 (lOf n L) := by simp [row, ints, lOf]
theorem lOf_get {n i : Nat} (L : Nat → Int) (h : i < n) : (lOf n L).getD i 0 = L i := by simp [lOf, List.getD, h]
theorem lOf_length (n : Nat) (L : Nat → Int) : (lOf n L).length = n := by simp [lOf]
section
variable {ts : List Int} {h : Nat} {o : List Nat} {F L : Nat → Int}
theorem load_run (r : Run (tOf ts) h o F L) (hp : o.Perm (List.range ts.length)) (b : Nat) : load ts (lOf ts.length L) b = F b := by
  have hnd : o.Nodup := hp.nodup_iff.2 List.nodup_range
  rw [r.load hnd b, perm_sum (hp.map fun i => if L i = b then tOf ts i else 0)]
  unfold load
  rw [lOf_length]
  exact sum_congr fun i hi => by rw [lOf_get L hi]; rfl
theorem inside_run (r : Run (tOf ts) h o F L) (hp : o.Perm (List.range ts.length)) : insideB h (lOf ts.length L) = true := by
  unfold insideB lOf
  rw [List.all_eq_true]
  intro z hz
  obtain ⟨i, hi, rfl⟩ := List.mem_map.1 hz
  have := r.hand i (hp.symm.subset hi)
  unfold inB
  simp
  omega
theorem endTo_run (hF : ∀ b, 0 ≤ F b) (hl : ∀ b : Nat, load ts (lOf ts.length L) b = F b) {j : Nat} (hmax : ∀ b, b < h → F b ≤ F j) : ∀ k, k ≤ h → endTo ts (lOf ts.length L) k ≤ F j ∧ ∀ b, b < k → F b ≤ endTo ts (lOf ts.length L) k := by
  intro k
  induction k with
  | zero => intro _; exact ⟨hF j, fun b hb => absurd hb (by omega)⟩
  | succ k ih =>
    intro hk
    obtain ⟨i1, i2⟩ := ih (by omega)
    rw [endTo, hl k]
    have hm := hmax k (by omega)
    split
    · rename_i hlt
      refine ⟨hm, fun b hb => ?_⟩
      by_cases hbk : b < k
      · have := i2 b hbk; omega
      · obtain rfl : b = k := by omega
        exact Int.le_refl _
    · rename_i hlt
      refine ⟨i1, fun b hb => ?_⟩
      by_cases hbk : b < k
      · exact i2 b hbk
      · obtain rfl : b = k := by omega
        omega
theorem osum_run (hp : o.Perm (List.range ts.length)) : osum (tOf ts) o = psum ts ts.length := by
  unfold osum psum
  exact perm_sum (hp.map (tOf ts))
theorem graham {x : Int} {j : Nat} (h1 : 1 ≤ h) (ht : ∀ i, 0 ≤ ts.getD i 0) (ho : Opt ts h (2 ^ ts.length - 1) x) (hp : o.Perm (List.range ts.length)) (r : Run (tOf ts) h o F L) (hj : j < h) (hmax : ∀ b, b < h → F b ≤ F j) :
    endsF ts (lOf ts.length L) h = F j ∧ x ≤ F j ∧ (h : Int) * F j ≤ (2 * h - 1) * x := by
  have hF := r.pos ht
  have he := endTo_run (h := h) (L := L) hF (load_run r hp) hmax h (Nat.le_refl _)
  have hend : endTo ts (lOf ts.length L) h = F j := by have := he.2 j hj; omega
  have hin := inside_run r hp
  have hx0 : 0 ≤ x := by
    obtain ⟨f, _, hf⟩ := ho.1
    have := hf 0 h1
    have := has_nonneg ht (2 ^ ts.length - 1) f 0
    omega
  refine ⟨by rw [endsF, if_pos ⟨lOf_length _ _, hin⟩, hend], by rw [← hend]; exact any_le ho (lOf_length _ _) hin h1, ?_⟩
  have hg := Run.graham (t := tOf ts) (x := x) h1 ht (fun i hi => opt_each ht ho i (by simpa using hp.subset hi)) hx0 r j hj
  rw [osum_run hp, psum_full] at hg
  have hs := opt_sum ho
  have e : (2 * (h : Int) - 1) * x = h * x + (h - 1) * x := by rw [← Int.add_mul]; congr 1; omega
  omega
end
end Go.Proofs.Ytecillikakfdnaa
